/-
  Texts that the claim hangs on, part 5.
-/
import Derived.Test.YtbamgdknkhhikaaX3
namespace Go.Proofs.Ytbamgdknkhhikaa
open Go.Ab
set_option linter.unusedSimpArgs false
set_option linter.unusedVariables false
theorem sub_filter {α : Type} {p : α → Bool} : ∀ {s l : List α}, s.Sublist l → l.Nodup → (∀ x ∈ l, x ∈ s ↔ p x = true) → s = l.filter p := by
  intro s l hs
  induction hs with
  | slnil => intro _ _; rfl
  | cons a t ih =>
    rename_i s l
    intro hn hp
    rw [List.nodup_cons] at hn
    have ha : p a = false := by
      cases e : p a with
      | false => rfl
      | true => exact absurd (t.subset ((hp a List.mem_cons_self).2 e)) hn.1
    rw [List.filter_cons_of_neg (by rw [ha]; exact fun q => by cases q)]
    exact ih hn.2 fun x hx => hp x (List.mem_cons_of_mem _ hx)
  | cons_cons a t ih =>
    rename_i s l
    intro hn hp
    rw [List.nodup_cons] at hn
    rw [List.filter_cons_of_pos ((hp a List.mem_cons_self).1 List.mem_cons_self)]
    rw [← ih hn.2 fun x hx => ?_]
    rw [← hp x (List.mem_cons_of_mem _ hx), List.mem_cons]
    exact ⟨.inr, fun q => q.elim (fun e => absurd (e ▸ hx) hn.1) id⟩
theorem bys_some {x : CD} (h : x.bys.length ≠ 0) : ∃ r, lkG x.bys r = some () := by
  cases e : x.bys with
  | nil => rw [e] at h; exact absurd rfl h
  | cons p t => exact ⟨p.1, by simp [lkG]⟩
theorem nodup_of_keys {κ β : Type} {l : List (κ × β)} (h : (l.map fun p => p.1).Nodup) : l.Nodup := by
  rw [List.nodup_iff_pairwise_ne, List.pairwise_map] at h
  rw [List.nodup_iff_pairwise_ne]
  exact h.imp fun q e => q (by rw [e])
open Classical in
theorem Less.lines {T T' : TD} {D : SK → BK → Prop} (W : TW T) (L : Less T T' D) : mp barC T'.cs = (mp barC T.cs).filter fun p => decide (∃ r, hasB T p.1 r ∧ ¬ D p.1 r) := by
  have hk : ((mp barC T.cs).map fun p => p.1).Nodup := by rw [mp_keys]; exact W.ck
  refine sub_filter L.sc (nodup_of_keys hk) fun p hp => ?_
  rw [decide_eq_true_iff]
  constructor
  · intro q
    obtain ⟨⟨k, x⟩, hx, rfl⟩ := List.mem_map.1 q
    have h1 := lkG_of_mem L.w.ck hx
    obtain ⟨r, hr⟩ := bys_some (L.w.cne k x h1)
    exact ⟨r, (L.has k r).1 ⟨x, h1, hr⟩⟩
  · rintro ⟨r, h1, h2⟩
    obtain ⟨x, q1, q2⟩ := (L.has p.1 r).2 ⟨h1, h2⟩
    have q3 : (p.1, barC x) ∈ mp barC T'.cs := List.mem_map.2 ⟨_, lkG_mem q1, rfl⟩
    have q4 := lkG_of_mem hk (L.sc.subset q3)
    have q5 := lkG_of_mem (k := p.1) (u := p.2) hk hp
    rw [q4] at q5
    injection q5 with q5
    have : p = (p.1, barC x) := Prod.ext rfl q5.symm
    rw [this]; exact q3
open Classical in
theorem Less.one {T T' : TD} {k : SK} (W : TW T) (L : Less T T' fun k' _ => k' = k) : mp barC T'.cs = (mp barC T.cs).filter fun p => !decide (p.1 = k) := by
  rw [L.lines W]
  refine List.filter_congr fun p hp => ?_
  obtain ⟨⟨k', x⟩, hx, rfl⟩ := List.mem_map.1 hp
  have h1 := lkG_of_mem W.ck hx
  obtain ⟨r, hr⟩ := bys_some (W.cne k' x h1)
  by_cases e : k' = k
  · exact (decide_eq_false fun ⟨r, _, q⟩ => q e).trans (by simp [e])
  · exact (decide_eq_true ⟨r, ⟨x, h1, hr⟩, e⟩).trans (by simp [e])
theorem cs_le {T : TD} (W : TW T) : T.cs.length ≤ T.n := by
  rw [W.sum]
  have : ∀ (l : List (SK × CD)), (∀ p ∈ l, p.2.bys.length ≠ 0) → l.length ≤ sumG CD.bys l := by
    intro l
    induction l with
    | nil => intro _; exact Nat.zero_le _
    | cons p t ih =>
      intro h
      have h1 := ih fun q hq => h q (List.mem_cons_of_mem _ hq)
      have h2 := h p List.mem_cons_self
      simp only [sumG, List.map_cons, List.sum_cons, List.length_cons] at h1 ⊢
      omega
  exact this _ fun p hp => W.cne p.1 p.2 (lkG_of_mem W.ck hp)
theorem own_app2 {b : Nat} {h h0 : AHeap} {n bytes : Nat} {v x : AV} {es new : List (List AV)} (O : Own b h n v es) (hn : 0 < n) (hb : b ≤ h.sz) (o : h.Ok) (k0 : h0.Ok) (e0 : Ext h0 h) (hb0 : h0.sz ≤ b) (hs : source h n x = some new) (h1 : (es.length + new.length) * bytes ≤ most) (h2 : es.length + new.length ≤ most) :
    ∃ v' h', appendA h n bytes v x = some (v', h') ∧ Own b h' n v' (es ++ new) ∧ h'.Ok ∧ Ext h0 h' ∧ Fr (inRow v) h h' ∧ (∀ j, inRow v' j → inRow v j ∨ j = h.sz) := by
  obtain ⟨v', h', a1, a2, a3, a4, a5, a6, a7⟩ := O.app hn hb o k0 e0 hb0 hs h1 h2
  exact ⟨v', h', a1, a2, a3, a4, ⟨a5, fun j o' nj g => a6 j o' g fun id g' s l c ex e q => nj ⟨g', s, l, c, ex, by rw [e, q]⟩⟩, fun j i => app_row a1 i⟩
abbrev Line := SK × (Nat × Nat × Str × AV × Nat)
def nmL (l : List Line) : List Str := l.map fun p => p.2.2.2.1
def encS (l : List Str) : List (List AV) := l.map fun s => [.str s]
structure OI (h0 h : AHeap) (τ : Nat → Tag) (T : TD) (nv : AV) (names : List Str) (i : Nat) : Prop where
  o : TO τ h T
  w : TW T
  e : Ext h0 h
  t0 : ∀ j, j < h0.sz → τ j = .out
  own : Own h0.sz h 1 nv (encS names)
  tn : ∀ j, inRow nv j → τ j = .out
  nm : names = nmL (mp barC T.cs)
  ks : ∀ p ∈ mp barC T.cs, p.1 = (p.2.2.2.1, []) ∧ p.2.2.2.2.1 = .nilSlc
  cn : T.n ≤ i
  ca : T.came ≤ 2 * i
section
variable {h0 h h' : AHeap} {τ : Nat → Tag} {T : TD} {nv : AV} {names : List Str} {i : Nat}
theorem OI.ext (I : OI h0 h τ T nv names i) (e : Ext h h') (o : h'.Ok) : OI h0 h' τ T nv names i :=
  ⟨I.o.ext e o, I.w, ext_two I.e e, I.t0, I.own.ext e, I.tn, I.nm, I.ks, I.cn, I.ca⟩
theorem OI.len (I : OI h0 h τ T nv names i) : names.length = T.cs.length := by rw [I.nm]; simp [nmL, mp]
theorem OI.le (I : OI h0 h τ T nv names i) : T.cs.length ≤ i := Nat.le_trans (cs_le I.w) I.cn
theorem OI.x (I : OI h0 h τ T nv names i) {k : SK} {x : CD} (hx : (k, x) ∈ T.cs) : k = (x.cls, []) ∧ x.vals = .nilSlc := I.ks (k, barC x) (List.mem_map.2 ⟨_, hx, rfl⟩)
theorem OI.at (I : OI h0 h τ T nv names i) {j : Nat} {p : SK × CD} (hp : T.cs[j]? = some p) : names[j]? = some p.2.cls := by
  rw [I.nm]; simp [nmL, mp, hp, barC]
theorem OI.own_fr (I : OI h0 h τ T nv names i) (F : Fr (W8 τ) h h') : Own h0.sz h' 1 nv (encS names) := by
  have f : ∀ j, inRow nv j → ¬ W8 τ j := fun j hj w => by have w : (τ j).own := w; rw [I.tn j hj] at w; exact w
  rcases I.own with q | ⟨id, r, w1, w2, w3, w4, w5, w6, w7⟩
  · exact .inl q
  · exact .inr ⟨id, r, w1, w2, F.row (f id (by rw [w2]; exact ⟨_, _, _, _, _, rfl⟩)) w3, w4, w5, w6, w7⟩
theorem OI.ext_fr (I : OI h0 h τ T nv names i) (k0 : h0.Ok) (F : Fr (W8 τ) h h') : Ext h0 h' := F.ext I.e k0 fun j w => by
  by_cases q : j < h0.sz
  · have w : (τ j).own := w; rw [I.t0 j q] at w; exact w.elim
  · omega
end
end Go.Proofs.Ytbamgdknkhhikaa
namespace Go.Proofs.Ytbamgdknkhhikaa
open Go.Ab
set_option linter.unusedSimpArgs false
set_option linter.unusedVariables false
theorem load_ext {h h' : AHeap} (e : Ext h h') {ag : Bool} {n id g i o : Nat} {v : AV} (q : loadA h ag n (.ptr id g i o) = some v) : loadA h' ag n (.ptr id g i o) = some v := by
  unfold loadA at q ⊢
  cases hr : h.row id with
  | none => simp only [hr] at q; cases q
  | some r =>
    simp only [hr] at q
    simp only [e.row hr]; exact q
theorem mapOf_ext {h h' : AHeap} (e : Ext h h') {id : Nat} {x : List (AV × AV × Nat) × Nat} (q : mapOf h (.map id) = some x) : mapOf h' (.map id) = some x := by
  simp only [mapOf] at q ⊢
  cases hg : h.get id with
  | none => rw [hg] at q; cases q
  | some o => rw [e.2 _ _ hg]; rw [hg] at q; exact q
theorem look_ext {h h' : AHeap} (e : Ext h h') {kk : KK} {ok : Bool} {z k v : AV} {id : Nat} (q : lookA h kk ok z (.map id) k = some v) : lookA h' kk ok z (.map id) k = some v := by
  unfold lookA at q ⊢
  cases hf : fitsKK kk k with
  | false => rw [hf] at q; cases q
  | true =>
    rw [hf] at q
    simp only [cond_true] at q ⊢
    cases hm : mapOf h (.map id) with
    | none => rw [hm] at q; cases q
    | some x => rw [mapOf_ext e hm]; rw [hm] at q; exact q
def ck (r : BK) : List AV := [.int .i64 r.1, .str r.2]
def rkeys (T : TD) : List BK := T.rs.map fun p => p.1
section
variable {τ : Nat → Tag} {h h0 : AHeap} {T : TD} {K : Kont} {n : Nat} {r1 r2 : BK} {y1 y2 : RD} {bx : Nat}
structure Cmp (g : AHeap) (bx : Nat) (T : TD) (r1 r2 : BK) (y1 y2 : RD) : Prop where
  b : loadA g false 1 (.ptr bx 0 0 0) = some (.ptr T.p 0 0 0)
  m : loadA g false 1 (.ptr T.p 0 0 1) = some (.map T.rm)
  l1 : lookA g (.st [.int, .str]) false .nilPtr (.map T.rm) (bk2 r1) = some (.ptr y1.id 0 0 0)
  l2 : lookA g (.st [.int, .str]) false .nilPtr (.map T.rm) (bk2 r2) = some (.ptr y2.id 0 0 0)
  c1 : loadA g false 1 (.ptr y1.id 0 0 3) = some (.int .i64 (y1.came : Int))
  c2 : loadA g false 1 (.ptr y2.id 0 0 3) = some (.int .i64 (y2.came : Int))
theorem Cmp.ext {g g' : AHeap} (C : Cmp g bx T r1 r2 y1 y2) (e : Ext g g') : Cmp g' bx T r1 r2 y1 y2 := ⟨load_ext e C.b, load_ext e C.m, look_ext e C.l1, look_ext e C.l2, load_ext e C.c1, load_ext e C.c2⟩
theorem c47 {g : AHeap} (o : g.Ok) (C : Cmp g bx T r1 r2 y1 y2) (h1 : y1.came < 1000000) (h2 : y2.came < 1000000) (k : ∀ g', K (.int .i64 ((y1.came : Int) - y2.came)) g' = true) :
    callN E (n + 1) (.func 47) [bk2 r1, bk2 r2, .ptr bx 0 0 0] g K = true := by
  apply d47
  unfold s47
  obtain ⟨g1, q1, V1, e1, o1, z1⟩ := box_v (n := 2) (v := bk2 r1) o rfl (by decide) rfl
  have V1 : Var g1 g.sz [.int .i64 r1.1, .str r1.2] := V1
  refine z_p q1 ?_
  obtain ⟨g2, q2, V2, e2, o2, z2⟩ := box_v (n := 2) (v := bk2 r2) o1 rfl (by decide) rfl
  have V2 : Var g2 g1.sz [.int .i64 r2.1, .str r2.2] := V2
  refine z_p q2 ?_
  have C := (C.ext e1).ext e2
  have A1 : loadA g2 true 2 (.ptr g.sz 0 0 0) = some (bk2 r1) := (V1.ext e2).all rfl
  have A2 : loadA g2 true 2 (.ptr g1.sz 0 0 0) = some (bk2 r2) := V2.all rfl
  refine z_of C.b ?_; refine z_nil ?_; refine z_fadr ?_; refine z_of C.m ?_; refine z_of A1 ?_; refine z_of C.l1 ?_; refine z_nil ?_; refine z_fadr ?_; refine z_of C.c1 ?_; refine z_of C.b ?_; refine z_nil ?_; refine z_fadr ?_; refine z_of C.m ?_; refine z_of A2 ?_; refine z_of C.l2 ?_; refine z_nil ?_; refine z_fadr ?_; refine z_of C.c2 ?_; refine z_of (sub64 (a := (y1.came : Int)) (b := (y2.came : Int)) (by omega) (by omega)) ?_
  exact k _
def cameOf (T : TD) : List AV → Int
  | [.int _ a, .str s] => match lkG T.rs (a, s) with
    | some y => (y.came : Int)
    | none => 0
  | _ => 0
theorem cameOf_ck {T : TD} {r : BK} {y : RD} (e : lkG T.rs r = some y) : cameOf T (ck r) = (y.came : Int) := by
  have : lkG T.rs (r.1, r.2) = some y := e
  simp only [cameOf, ck, this]
theorem c46 {b : Nat} {v : AV} {ps : List BK} (O : TO τ h T) (W : TW T) (hc : T.came < 1000000) (VB : Var h bx [.ptr T.p 0 0 0]) (OV : Own b h 2 v (ps.map ck)) (hp : ps.Perm (rkeys T)) (hl : ps.length < 1000000)
    (l1 : bx < b) (l2 : T.p < b) (l3 : T.rm < b) (l4 : ∀ r y, lkG T.rs r = some y → y.id < b)
    (k : ∀ h', Fr (inRow v) h h' → h'.Ok → Own b h' 2 v ((rkeys T).map ck) → K (.tup []) h' = true) :
    callN E (n + 2) (.func 46) [v, .fn (.func 47) [] [.ptr bx 0 0 0]] h K = true := by
  show sortPK 2 [47] (callN E (n + 1)) (n + 1) [v, .fn (.func 47) [] [.ptr bx 0 0 0]] h K = true
  have hk : ∀ r ∈ ps, ∃ y, lkG T.rs r = some y := fun r hr => by
    obtain ⟨p, hp', rfl⟩ := List.mem_map.1 (hp.mem_iff.1 hr)
    exact ⟨p.2, lkG_of_mem O.rk hp'⟩
  have hcm : ∀ r y, lkG T.rs r = some y → y.came < 1000000 := fun r y e => by
    have := W.tr y.came (by simp only [mp, List.map_map, List.mem_map]; exact ⟨(r, y), lkG_mem e, rfl⟩)
    omega
  rcases OV with ⟨rfl, he⟩ | ⟨id, r, w1, rfl, w3, w4, w5, w6, w7⟩
  · have hks : ps = [] := by simpa using he
    subst hks
    have : rkeys T = [] := hp.symm.eq_nil
    refine k h (Fr.refl _ _) O.ok (.inl ⟨rfl, by rw [this]; rfl⟩)
  · rw [List.length_map] at *
    show (bif Nat.beq ps.length 0 then K (.tup []) h else cdec _) = true
    cases hz : Nat.beq ps.length 0 with
    | true =>
      have h0 := nbeq_true.1 hz
      have hks : ps = [] := List.length_eq_zero_iff.1 h0
      subst hks
      have : rkeys T = [] := hp.symm.eq_nil
      refine k h (Fr.refl _ _) O.ok ?_
      rw [this]
      exact .inr ⟨id, r, w1, rfl, w3, w4, w5, w6, w7⟩
    | false =>
      rw [cond_false]
      refine cdec_true.2 ⟨List.mem_singleton.2 rfl, r, ps.map ck, fun x y => cameOf T x - cameOf T y, rfl, List.length_map _, ?_⟩
      have lay_us : ∀ us : List (List AV), us.length = ps.length → lay r.es 0 us = us := fun us hu => by
        have : r.es.length = us.length := by rw [w7, List.length_map, hu]
        simp only [lay, List.take_zero, List.nil_append, Nat.zero_add]
        rw [List.drop_of_length_le (by omega), List.append_nil]
      have pts : ∀ x ∈ ps.map ck, ∃ s y, x = ck s ∧ lkG T.rs s = some y := fun x hx => by
        obtain ⟨s, hs, rfl⟩ := List.mem_map.1 hx
        obtain ⟨y, hy⟩ := hk s hs
        exact ⟨s, y, rfl, hy⟩
      refine ⟨AHeap.row_some.1 w3, w4, w6, ?_, by rw [List.length_map]; omega, fun x _ => by omega, fun x _ y _ z _ => by omega, fun x _ y _ z _ => by omega, ?_, ?_⟩
      · rw [w7, List.drop_zero, List.take_of_length_le (Nat.le_refl _)]
      · intro us hu _ x hx y hy
        obtain ⟨a, ya, rfl, ha⟩ := pts x hx
        obtain ⟨c, yc, rfl, hc'⟩ := pts y hy
        have f : Fr (fun j => j = id) h (putSegK h id r 0 us) := Fr.put (X := fun j => j = id) rfl h _
        have okp : (putSegK h id r 0 us).Ok := O.ok.put (O.ok.lt (AHeap.row_some.1 w3)) _
        have Ra := O.r a ya (lkG_mem ha)
        have Rc := O.r c yc (lkG_mem hc')
        have ia := l4 a ya ha
        have ic := l4 c yc hc'
        have M := f.kmap O.rs (by show ¬ T.rm = id; omega)
        have C : Cmp (putSegK h id r 0 us).frz bx T a c ya yc := by
          refine ⟨?_, ?_, ?_, ?_, ?_, ?_⟩
          · rw [load_frz (f.var VB (by show ¬ bx = id; omega))]; rfl
          · rw [load_frz (f.var O.var (by show ¬ T.p = id; omega))]; rfl
          · rw [look_frz M, M.look bks, lk_G, lkG_mp, ha]; rfl
          · rw [look_frz M, M.look bks, lk_G, lkG_mp, hc']; rfl
          · rw [load_frz (f.var Ra.row (by show ¬ ya.id = id; omega))]; rfl
          · rw [load_frz (f.var Rc.row (by show ¬ yc.id = id; omega))]; rfl
        refine c47 okp.frz C (hcm a ya ha) (hcm c yc hc') fun g' => ?_
        rw [cameOf_ck ha, cameOf_ck hc']
        show ieqb _ _ = true
        rw [ieqb_dec]; exact decide_eq_true rfl
      · intro us hp1 hp2
        have hsr : (rkeys T).Pairwise fun a b => cameOf T (ck a) < cameOf T (ck b) := by
          have := W.sr
          simp only [mp, List.map_map, List.pairwise_map] at this
          unfold rkeys
          rw [List.pairwise_map]
          refine this.imp_of_mem fun {a b} ha hb e => ?_
          rw [cameOf_ck (lkG_of_mem O.rk (show (a.1, a.2) ∈ T.rs from ha)), cameOf_ck (lkG_of_mem O.rk (show (b.1, b.2) ∈ T.rs from hb))]
          have e : a.2.came < b.2.came := e
          omega
        have inj : ∀ a ∈ rkeys T, ∀ b ∈ rkeys T, cameOf T (ck a) = cameOf T (ck b) → a = b := fun a ha b hb hab => by
          rcases List.mem_iff_getElem.1 ha with ⟨i1, h1, rfl⟩
          rcases List.mem_iff_getElem.1 hb with ⟨i2, h2, rfl⟩
          rcases Nat.lt_trichotomy i1 i2 with q | q | q
          · have := List.pairwise_iff_getElem.1 hsr i1 i2 h1 h2 q; omega
          · subst q; rfl
          · have := List.pairwise_iff_getElem.1 hsr i2 i1 h2 h1 q; omega
        have heq : us = (rkeys T).map ck := by
          refine List.Perm.eq_of_pairwise (le := fun a b => ¬ cameOf T b - cameOf T a < 0) (fun a b ha hb h1 h2 => ?_) hp2 ?_ (hp1.trans (hp.map ck))
          · obtain ⟨s, hs, rfl⟩ := List.mem_map.1 (hp1.mem_iff.1 ha)
            obtain ⟨t, ht, rfl⟩ := List.mem_map.1 hb
            rw [inj s (hp.mem_iff.1 hs) t ht (by omega)]
          · rw [List.pairwise_map]
            exact hsr.imp fun {a b} e => by omega
        subst heq
        have hlen : (rkeys T).length = ps.length := hp.length_eq.symm
        refine k _ ((Fr.put (X := fun j => j = id) rfl h _).mono fun j e => by rw [e]; exact ⟨_, _, _, _, _, rfl⟩) (O.ok.put (O.ok.lt (AHeap.row_some.1 w3)) _) ?_
        refine .inr ⟨id, { r with es := lay r.es 0 ((rkeys T).map ck), m := r.g }, w1, by rw [List.length_map, hlen], AHeap.row_some.2 (get_put_same _ _ _), w4, Nat.le_refl _, w6, ?_⟩
        exact lay_us _ (by rw [List.length_map, hlen])
end
end Go.Proofs.Ytbamgdknkhhikaa
namespace Go.Proofs.Ytbamgdknkhhikaa
open Go.Ab
set_option linter.unusedSimpArgs false
set_option linter.unusedVariables false
theorem Less.rget {T T' : TD} {D : SK → BK → Prop} (W : TW T) (L : Less T T' D) {r : BK} {y : RD} (hy : lkG T.rs r = some y) (hD : ∀ k, hasB T k r → ¬ D k r) : ∃ y', lkG T'.rs r = some y' ∧ barR y' = barR y := by
  have hne := W.rne r y hy
  obtain ⟨k, hk⟩ : ∃ k, lkG y.ofs k = some () := by
    cases e : y.ofs with
    | nil => rw [e] at hne; exact absurd rfl hne
    | cons p t => exact ⟨p.1, by simp [lkG]⟩
  have hB : hasB T k r := (W.bij k r).2 ⟨y, hy, hk⟩
  have hB' := (L.has k r).2 ⟨hB, hD k hB⟩
  obtain ⟨y', q1, q2⟩ := (L.w.bij k r).1 hB'
  refine ⟨y', q1, ?_⟩
  have q3 : (r, barR y') ∈ mp barR T'.rs := List.mem_map.2 ⟨_, lkG_mem q1, rfl⟩
  have hk' : ((mp barR T.rs).map fun p => p.1).Nodup := by rw [mp_keys]; exact W.rk
  have q4 := lkG_of_mem hk' (L.sr.subset q3)
  rw [lkG_mp, hy] at q4
  injection q4 with q4
  exact q4.symm
section
variable {τ : Nat → Tag} {h : AHeap} {T : TD} {K : Kont} {n : Nat} {r : BK} {y : RD} {bx rc it : Nat}
theorem l54 {x1 x7 lv len iv : AV} {B : F6} {hL : AHeap} (O0 : TO τ hL T) (W0 : TW T) (hy : lkG T.rs r = some y) (hn : T.n < 1000000) (hit : hL.sz ≤ it) (hrc : τ rc = .out) (hbx : τ bx = .out)
    (k1 : ∀ h' T', TO τ h' T' → Fr (W8 τ) hL h' → Less T T' (fun _ r' => r' = r) → Var h' bx [.ptr T.p 0 0 0] → T'.n ≤ T.n → p13_66 (callN E (n + 1)) (n + 1) B x1 (.ptr bx 0 0 0) x7 lv len iv h' K = true) :
    ∀ m h1 l T1, l.length < m → TO τ h1 T1 → Fr (W8 τ) hL h1 → Less T T1 (fun k' r' => r' = r ∧ lkG l k' = none) → (l ≠ [] → lkG T1.rs r = some (setR y l)) → (l.map fun p => p.1).Nodup → KIterD sk h1 it y.m (one l) → Var h1 rc [.int .i64 r.1, .str r.2] → Var h1 bx [.ptr T.p 0 0 0] → T1.n ≤ T.n →
      l13_54 (callN E (n + 1)) (n + 1) B m x1 (.ptr bx 0 0 0) x7 (.ptr rc 0 0 0) lv len iv (.itr it) h1 K = true := by
  intro m
  induction m with
  | zero => intro h1 l T1 hm; omega
  | succ m ih =>
    intro h1 l T1 hm O F L hl hnd IT V3 VB hT1
    have R0 := O0.r r y (lkG_mem hy)
    have xl := R0.map.lt O0.ok
    have tit := O0.hi it hit
    unfold l13_54 b13_54
    refine IT.next sks O.ok (by omega) (fun e0 => ?_) (fun k v h2 hk b2 o2 z2 IC ent => ?_)
    · refine z_ext0 ?_; refine z_cF ?_
      have : l = [] := by simpa [one, mp] using e0
      subst this
      exact k1 h1 T1 O F (L.iff fun k' r' _ => ⟨fun e => e.1, fun e => ⟨e, rfl⟩⟩) VB hT1
    · have hb := one_mem hnd hk
      have hne : l ≠ [] := fun e => by rw [e] at hb; cases hb
      have hy1 := hl hne
      have hlen := dlG_len hb
      refine z_ext0 ?_; refine z_cT ?_; refine z_of ent ?_; refine z_ext0 ?_
      have F2 := fr_acc O0.ok F (Fr.of_but (X := fun j => j = it) rfl b2) fun j e => .inr (by rw [e]; exact hit)
      have O2 := O.fr (Fr.of_but (X := fun j => j = it) rfl b2) o2 fun j e => by rw [e, tit]; exact id
      have nrow : ∀ {id c}, Var h1 id c → id ≠ it := fun {id c} V e => by
        obtain ⟨es, c', s, _, _, q⟩ := IT
        have V' : h1.row id = _ := V
        rw [AHeap.row_some, e, q] at V'; cases V'
      have V3 := b2.var V3 (nrow V3)
      have VB := b2.var VB (nrow VB)
      obtain ⟨h3, c1, c2, e3, o3, z3⟩ := alloc_v (z := [AV.str [], .str []]) o2 (by decide) rfl
      refine z_p c1 ?_
      obtain ⟨h4, w1, w2, w3, o4, w5⟩ := c2.wrs o3 (n := 2) (v := sk k) rfl rfl rfl
      refine z_u w1 ?_
      have w2 : Var h4 h2.sz [.str k.1, .str k.2] := w2
      have it2 : it < h2.sz := by obtain ⟨es, c, s, _, _, q⟩ := IC; exact o2.lt q
      have x2 : y.m < h2.sz := IC.map.lt o2
      have rc2 : rc < h2.sz := V3.lt o2
      have bx2 : bx < h2.sz := VB.lt o2
      have F4 : Fr (fun j => j = h2.sz) h2 h4 := (Fr.of_ext e3).trans (Fr.of_but rfl w3)
      have O4 := O2.fr F4 o4 fun j e => by rw [e, O2.hi _ (Nat.le_refl _)]; exact id
      have IC := F4.kiterC IC (by omega) (by omega)
      have V3 := F4.var V3 (by omega)
      have VB := F4.var VB (by omega)
      have F4 := fr_acc O0.ok F2 F4 fun j e => .inr (by rw [e]; exact F2.sz)
      have A1 : loadA h4 false 1 (.ptr bx 0 0 0) = some (.ptr T.p 0 0 0) := VB.get rfl
      have A2 : loadA h4 true 2 (.ptr h2.sz 0 0 0) = some (sk k) := w2.all rfl
      have A3 : loadA h4 true 2 (.ptr rc 0 0 0) = some (bk2 r) := V3.all rfl
      refine z_of A1 ?_; refine z_of A2 ?_; refine z_of A3 ?_
      have hR : hasR T1 k r := ⟨_, hy1, hb⟩
      obtain ⟨x, hx, hk'⟩ := (L.w.bij k r).2 hR
      have hn1 : 1 ≤ T1.n := by
        rw [L.w.sum]
        have := lk_le_sum (get := CD.bys) hx
        have h2 := List.length_pos_of_mem (lkG_mem hk')
        omega
      have hp := L.p
      rw [← hp]
      refine c48 O4 hx hk' hy1 hb hn1 (by omega) fun h6 O6 F6 D1 D2 => ?_
      have L6 := L.trans (drop_less L.w hx hk' hy1 hb)
      have hit6 : h6.get it = h4.get it := by
        obtain ⟨es, c, s, _, _, q⟩ := IC
        rw [q]
        exact F6.keep it _ (by show ¬ (τ it).own; rw [tit]; exact id) q
      refine ih h6 (dlG l k) (dropT T1 k r) (by omega) O6 (fr_acc O0.ok F4 F6 fun j e => .inl e) (L6.iff fun k' r' hh => ?_) (fun e => ?_) (dlG_nodup hnd) ?_ (F6.var V3 (by show ¬ (τ rc).own; rw [hrc]; exact id)) (F6.var VB (by show ¬ (τ bx).own; rw [hbx]; exact id)) (by show T1.n - 1 ≤ _; omega)
      · rw [lkG_dl hnd]
        constructor
        · rintro (⟨e1, e2⟩ | ⟨e1, e2⟩)
          · exact ⟨e1, (by by_cases q : k' = k; (rw [if_pos q]); (rw [if_neg q]; exact e2))⟩
          · exact ⟨e2, by rw [if_pos e1]⟩
        · rintro ⟨e1, e2⟩
          by_cases e : k' = k
          · exact .inr ⟨e, e1⟩
          · rw [if_neg e] at e2; exact .inl ⟨e1, e2⟩
      · have := dropG_lk (get := RD.ofs) (set := setR) L.w.rk hy1 (r := k) r
        rw [if_pos rfl, if_neg (by show ¬ (dlG l k).length = 0; exact fun q => e (List.length_eq_zero_iff.1 q))] at this
        exact this
      · have := IC.del sks D2 hit6
        rw [one, dlG_mp, ← dl_G]
        exact this
def deadB (T : TD) (live : Nat → Bool) (i : Nat) (_ : SK) (r : BK) : Prop := ∃ j, j < i ∧ (rkeys T)[j]? = some r ∧ live j = false
theorem c13 {x1 : AV} {live : Nat → Bool} {J : Nat → AHeap → (Nat → Prop) → Prop} {X0 : Nat → Prop} {GM : BK → AHeap → Nat → Nat → AV → AV → Prop} (O : TO τ h T) (W : TW T) (hn : T.n < 1000000) (hc : T.came < 1000000) (hl : T.rs.length < 1000000) (hf : T.rs.length < n) (hf2 : T.n < n)
    (hfn : ∀ g, eqV g false .fn x1 .nilFn = some (.bool false)) (hX0 : ∀ j, X0 j → τ j = .out ∧ j < h.sz) (hJ : J 0 h X0) (jfr : ∀ i h1 h2 X, J i h1 X → Fr (W8 τ) h1 h2 → J i h2 X)
    (ht : ∀ r y, lkG T.rs r = some y → ∀ h1, h1.Ok → Fr (fun j => (τ j).own ∨ X0 j) h h1 → ∀ K' : Kont, (∀ h2 a b, Ext h1 h2 → h2.Ok → GM r h2 h1.sz h2.sz a b → K' (.agg [.int .i64 y.core, a, b]) h2 = true) → callN E (n + 2) (.func 41) [.agg [.int .i64 y.core, y.els, y.env]] h1 K' = true)
    (hlive : ∀ i r y, (rkeys T)[i]? = some r → lkG T.rs r = some y → ∀ h1 X a b lo hi, h1.Ok → Fr (fun j => (τ j).own ∨ X0 j) h h1 → J i h1 X → GM r h1 lo hi a b → hi ≤ h1.sz → (∀ j, X j → ¬ (lo ≤ j ∧ j < hi)) → ∀ K' : Kont,
      (∀ h2 X', h2.Ok → Fr X h1 h2 → J (i + 1) h2 X' → (∀ j, X' j → (X j ∨ h1.sz ≤ j) ∧ j < h2.sz) → K' (.bool (live i)) h2 = true) → callV (callN E (n + 2)) x1 [.agg [.int .i64 y.core, a, b]] h1 K' = true)
    (kk : ∀ h' T' X, TO τ h' T' → Less T T' (deadB T live T.rs.length) → J T.rs.length h' X → Fr (fun j => (τ j).own ∨ X0 j) h h' → K (.int .i64 ((T.n : Int) - (T'.n : Int))) h' = true) :
    callN E (n + 3) (.func 13) [.ptr T.p 0 0 0, x1] h K = true := by
  have hlm : lim = 4611686018427387904 := rfl
  have hmo : most = 1099511627776 := rfl
  have rkl : (rkeys T).length = T.rs.length := by simp [rkeys]
  apply d13
  unfold s13
  obtain ⟨h1, q1, VB, e1, o1, z1⟩ := box_v (n := 1) (v := .ptr T.p 0 0 0) O.ok rfl (by decide) rfl
  have VB : Var h1 h.sz [.ptr T.p 0 0 0] := VB
  refine z_p q1 ?_
  refine z_of (hfn h1) ?_
  refine z_cF ?_
  unfold p13_10
  have O1 := O.ext e1 o1
  have B1 : loadA h1 false 1 (.ptr h.sz 0 0 0) = some (.ptr T.p 0 0 0) := VB.get rfl
  refine z_of B1 ?_; refine z_nil ?_; refine z_fadr ?_; refine z_of O1.l1 ?_
  obtain ⟨h2, r1, e2, o2, z2, IT⟩ := O1.rs.range' o1
  refine z_p r1 ?_
  have e02 := ext_two e1 e2
  have loop : ∀ hL lv, Ext h hL → hL.Ok → Var hL h.sz [.ptr T.p 0 0 0] → Own (h.sz + 1) hL 2 lv ((rkeys T).map ck) → ∀ m i g T1 X, T.rs.length - i < m → i ≤ T.rs.length → TO τ g T1 → Less T T1 (deadB T live i) → J i g X → Fr (fun j => (τ j).own ∨ X0 j) h g → hL.sz ≤ g.sz → Own (h.sz + 1) g 2 lv ((rkeys T).map ck) → (∀ j, inRow lv j → j < hL.sz) → Var g h.sz [.ptr T.p 0 0 0] → (∀ j, X j → j < g.sz ∧ τ j = .out ∧ (j < h.sz ∨ hL.sz ≤ j) ∧ (X0 j ∨ h.sz ≤ j)) → T1.n ≤ T.n →
      l13_35 (callN E (n + 2)) (n + 2) m x1 (.ptr h.sz 0 0 0) (.int .i64 (T.n : Int)) lv (.int .i64 (T.rs.length : Int)) (.int .i64 (i : Int)) g K = true := by
    intro hL lv eL oL VL OL m
    have szL : h.sz < hL.sz := VL.lt oL
    induction m with
    | zero => intro i g T1 X hm; omega
    | succ m ih =>
      intro i g T1 X hm hi O' L HJ F hg OV rlv VB hX hT1
      unfold l13_35 b13_35
      refine z_lss ?_
      by_cases hlt : i < T.rs.length
      · refine z_ct (decide_eq_true (by omega)) ?_
        unfold p13_42
        have hr : (rkeys T)[i]? = some (rkeys T)[i] := List.getElem?_eq_getElem (by omega)
        generalize hrr : (rkeys T)[i] = r at hr
        obtain ⟨y, hy⟩ : ∃ y, lkG T.rs r = some y := by
          obtain ⟨p, hp, hp2⟩ := List.mem_map.1 (List.mem_of_getElem? hr)
          exact ⟨p.2, by rw [← hp2]; exact lkG_of_mem W.rk hp⟩
        obtain ⟨id, gg, j, p1, p2⟩ := OV.view.at1 (i := i) (e := ck r) (by rw [List.getElem?_map, hr]; rfl)
        have A : loadA g true 2 (.ptr id gg j 0) = some (bk2 r) := by rw [p2]; rfl
        refine z_of (p1 .i64) ?_; refine z_of A ?_
        obtain ⟨g2, c1, c2, e3, o3, z3⟩ := alloc_v (z := [AV.int .i64 0, .str []]) O'.ok (by decide) rfl
        refine z_p c1 ?_
        obtain ⟨g3, w1, w2, w3, o4, w5⟩ := c2.wrs o3 (n := 2) (v := bk2 r) rfl rfl rfl
        refine z_u w1 ?_
        have RC : Var g3 g.sz [.int .i64 r.1, .str r.2] := w2
        have eg3 : Ext g g3 := w3.ext e3 O'.ok (Nat.le_refl _)
        have O3 := O'.ext eg3 o4
        have VB3 := VB.ext eg3
        have notD : ∀ k, hasB T k r → ¬ deadB T live i k r := by
          rintro k _ ⟨j, hj, hj2, _⟩
          have hnd : (rkeys T).Nodup := W.rk
          have h1 := (List.getElem?_eq_some_iff.1 hj2)
          have h2 := (List.getElem?_eq_some_iff.1 hr)
          exact List.pairwise_iff_getElem.1 (List.nodup_iff_pairwise_ne.1 hnd) j i h1.1 h2.1 hj (h1.2.trans h2.2.symm)
        obtain ⟨y', hy', hbar⟩ := L.rget W hy notD
        simp only [barR, Prod.mk.injEq] at hbar
        obtain ⟨hid, hm', hcore, hels, henv, hcame⟩ := hbar
        have B3 : loadA g3 false 1 (.ptr h.sz 0 0 0) = some (.ptr T.p 0 0 0) := VB3.get rfl
        have M3 : loadA g3 false 1 (.ptr T.p 0 0 1) = some (.map T1.rm) := by have := O3.l1; rw [L.p] at this; exact this
        have A3 : loadA g3 true 2 (.ptr g.sz 0 0 0) = some (bk2 r) := RC.all rfl
        have R3 := O3.r r y' (lkG_mem hy')
        have LD : loadA g3 true 3 (.ptr y'.id 0 0 0) = some (.agg [.int .i64 y.core, y.els, y.env]) := by
          rw [← hcore, ← hels, ← henv, R3.row.load]; rfl
        refine z_of B3 ?_; refine z_nil ?_; refine z_fadr ?_; refine z_of M3 ?_; refine z_of A3 ?_; refine z_of (O3.lkr hy') ?_; refine z_nil ?_; refine z_fadr ?_; refine z_of LD ?_
        have F3 : Fr (fun j => (τ j).own ∨ X0 j) h g3 := fr_ext F eg3
        refine ht r y hy g3 o4 F3 _ fun g4 a b e4 o5 G => ?_
        have eg4 := ext_two eg3 e4
        have J4 := jfr i g g4 X HJ (Fr.of_ext eg4)
        have s4 := e4.1; have s3 := eg3.1
        refine hlive i r y hr hy g4 X a b g3.sz g4.sz o5 (fr_ext F3 e4) J4 G (Nat.le_refl _) (fun j hj q => by have := (hX j hj).1; omega) _ fun g5 X' o6 F5 J5 hX' => ?_
        have Xout : ∀ j, X j → ¬ (τ j).own := fun j hj w => by rw [(hX j hj).2.1] at w; exact w
        have O5 := (O3.ext e4 o5).fr F5 o6 Xout
        have s5 := F5.sz
        have RC5 := F5.var (RC.ext e4) (fun q => by have := (hX _ q).1; omega)
        have VB5 := F5.var (VB3.ext e4) (fun q => by have := (hX _ q).2.2.1; omega)
        have OV5 : Own (h.sz + 1) g5 2 lv ((rkeys T).map ck) := by
          have := OV.ext eg4
          rcases this with q | ⟨id', r', u1, u2, u3, u⟩
          · exact .inl q
          · refine .inr ⟨id', r', u1, u2, F5.row (fun q => ?_) u3, u⟩
            have := rlv id' (by rw [u2]; exact ⟨_, _, _, _, _, rfl⟩)
            have := (hX _ q).2.2.1
            omega
        have F05 : Fr (fun j => (τ j).own ∨ X0 j) h g5 := fr_acc O.ok (fr_ext F3 e4) F5 fun j q => by
          rcases (hX j q).2.2.2 with q' | q'
          · exact .inl (.inr q')
          · exact .inr q'
        have hX5 : ∀ g6 : AHeap, g5.sz ≤ g6.sz → ∀ j, X' j → j < g6.sz ∧ τ j = .out ∧ (j < h.sz ∨ hL.sz ≤ j) ∧ (X0 j ∨ h.sz ≤ j) := fun g6 l j hj => by
          obtain ⟨q, ql⟩ := hX' j hj
          rcases q with q | q
          · obtain ⟨u1, u2, u3, u4⟩ := hX j q
            exact ⟨by omega, u2, u3, u4⟩
          · exact ⟨by omega, O.hi j (by have := O'.plt; omega), .inr (by omega), .inr (by omega)⟩
        refine z_some ?_
        cases hlv : live i with
        | true =>
          refine z_cF ?_
          unfold p13_66
          refine z_of (inc64 (i := i) (by omega)) ?_
          refine ih (i + 1) g5 T1 X' (by omega) (by omega) O5 (L.iff fun k r' _ => ?_) J5 F05 (by omega) OV5 rlv VB5 (hX5 g5 (Nat.le_refl _)) hT1
          constructor
          · rintro ⟨j, h1, h2, h3⟩; exact ⟨j, by omega, h2, h3⟩
          · rintro ⟨j, h1, h2, h3⟩
            have : j ≠ i := fun e => by rw [e, hlv] at h3; cases h3
            exact ⟨j, by omega, h2, h3⟩
        | false =>
          refine z_cT ?_
          have R5 := O5.r r y' (lkG_mem hy')
          refine z_nil ?_; refine z_fadr ?_; refine z_of R5.l4 ?_
          obtain ⟨g6, v1, e6, o7, z6, ITD⟩ := R5.map.rangeD o6
          refine z_p v1 ?_
          have O6 := O5.ext e6 o7
          have gsz : h.sz ≤ g.sz := by omega
          obtain ⟨n, rfl⟩ : ∃ j, n = j + 1 := ⟨n - 1, by omega⟩
          have hT1p : T1.p = T.p := L.p
          have hofs : y'.ofs.length ≤ T1.n := by
            have hnd := L.w.on r y' hy'
            rw [L.w.sum]
            have : ∀ (ks : List (SK × Unit)), (ks.map fun p => p.1).Nodup → (∀ p ∈ ks, hasB T1 p.1 r) → ks.length ≤ (T1.cs.filter fun p => (lkG p.2.bys r).isSome).length := by
              intro ks hks hh
              have h1 : (ks.map fun p => p.1).length ≤ ((T1.cs.filter fun p => (lkG p.2.bys r).isSome).map fun p => p.1).length := nodup_len hks fun k hk => by
                obtain ⟨p, hp, rfl⟩ := List.mem_map.1 hk
                obtain ⟨x, hx1, hx2⟩ := hh p hp
                exact List.mem_map.2 ⟨(p.1, x), List.mem_filter.2 ⟨lkG_mem hx1, by simp [hx2]⟩, rfl⟩
              simpa using h1
            refine Nat.le_trans (this y'.ofs hnd fun p hp => (L.w.bij p.1 r).2 ⟨y', hy', lkG_of_mem hnd hp⟩) ?_
            have : ∀ (cs : List (SK × CD)), (cs.filter fun p => (lkG p.2.bys r).isSome).length ≤ sumG CD.bys cs := by
              intro cs
              induction cs with
              | nil => simp
              | cons p t ih =>
                simp only [List.filter_cons, sumG, List.map_cons, List.sum_cons] at ih ⊢
                split
                · rename_i hp
                  cases hq : lkG p.2.bys r with
                  | none => rw [hq] at hp; cases hp
                  | some u =>
                    have := List.length_pos_of_mem (lkG_mem hq)
                    simp only [List.length_cons]; omega
                · omega
            exact this _
          refine l54 (n := n + 2) (r := r) (y := y') (it := g5.sz) O5 L.w hy' (by omega) (Nat.le_refl _) (O'.hi g.sz (Nat.le_refl _)) (O.hi h.sz (Nat.le_refl _)) (fun g7 T2 O7 F7 L7 VB7 hT2 => ?_) (n + 3) g6 y'.ofs T1 (by omega) O6 (Fr.of_ext e6) ((Less.refl L.w).iff fun k' r' hh => ⟨fun q => q.elim, fun ⟨q1, q2⟩ => by
              obtain ⟨z, u1, u2⟩ := (L.w.bij k' r').1 hh
              rw [q1, hy'] at u1; cases u1
              rw [q2] at u2; cases u2⟩) (fun _ => by rw [hy']; rfl) (L.w.on r y' hy') ITD (RC5.ext e6) (by rw [hT1p]; exact VB5.ext e6) (Nat.le_refl _)
          unfold p13_66
          refine z_of (inc64 (i := i) (by omega)) ?_
          have F57 : Fr (W8 τ) g5 g7 := F7
          have s7 := F57.sz
          refine ih (i + 1) g7 T2 X' (by omega) (by omega) O7 ((L.trans L7).iff fun k r' _ => ?_) (jfr (i + 1) g5 g7 X' J5 F57) (fr_acc O.ok F05 F57 fun j w => .inl (.inl w)) (by omega) ?_ rlv (by rw [← hT1p]; exact VB7) (hX5 g7 s7) ?_
          · constructor
            · rintro (⟨j, h1, h2, h3⟩ | h1)
              · exact ⟨j, by omega, h2, h3⟩
              · exact ⟨i, by omega, by rw [h1]; exact hr, hlv⟩
            · rintro ⟨j, h1, h2, h3⟩
              by_cases e : j = i
              · rw [e, hr] at h2; injection h2 with h2; exact .inr h2.symm
              · exact .inl ⟨j, by omega, h2, h3⟩
          · rcases OV5 with q | ⟨id', r', u1, u2, u3, u⟩
            · exact .inl q
            · refine .inr ⟨id', r', u1, u2, F57.row (fun q => ?_) u3, u⟩
              have q : (τ id').own := q
              rw [O.hi id' (by omega)] at q; exact q
          · omega
      · refine z_cf (decide_eq_false (by omega)) ?_
        have : i = T.rs.length := by omega
        subst this
        unfold p13_67
        have B3 : loadA g false 1 (.ptr h.sz 0 0 0) = some (.ptr T.p 0 0 0) := VB.get rfl
        have M3 : loadA g false 1 (.ptr T.p 0 0 3) = some (.int .i64 (T1.n : Int)) := by have := O'.l3; rw [L.p] at this; exact this
        refine z_of B3 ?_; refine z_nil ?_; refine z_fadr ?_; refine z_of M3 ?_; refine z_of (sub64 (a := (T.n : Int)) (b := (T1.n : Int)) (by omega) (by omega)) ?_
        exact kk g T1 X O' L HJ F
  suffices H : ∀ m h3 lv (done : List (BK × RD)), T.rs.length - done.length < m → done.length ≤ T.rs.length → Ext h h3 → h3.Ok → h1.sz < h3.sz → Var h3 h.sz [.ptr T.p 0 0 0] → KIter bk2 h3 h1.sz T.rm (mp (fun x => .ptr x.id 0 0 0) T.rs) (mp (fun x => .ptr x.id 0 0 0) done) → (∀ x ∈ done, x ∈ T.rs) → Own (h1.sz + 1) h3 2 lv ((done.map fun x => x.1).map ck) →
      l13_16 (callN E (n + 2)) (n + 2) m x1 (.ptr h.sz 0 0 0) lv (.itr h1.sz) h3 K = true from H (n + 2) h2 .nilSlc [] (by simp; omega) (Nat.zero_le _) e02 o2 (by omega) (VB.ext e2) IT (by simp) (Own.nil _ _ _)
  intro m
  induction m with
  | zero => intro h3 lv done hm; omega
  | succ m ih =>
    intro h3 lv done hm hd e3 o3 hz3 VB3 IT hin OL
    unfold l13_16 b13_16
    have rml := O.rs.lt O.ok
    refine IT.next bks o3 (by omega) (fun hP => ?_) (fun r v h4 hv hnd b4 o4 z4 IT4 ent => ?_)
    · refine z_ext0 ?_; refine z_cF ?_; refine z_some ?_
      have hPk : (done.map fun x => x.1).Perm (rkeys T) := by
        have := hP.map fun p => p.1
        rwa [mp_keys, mp_keys] at this
      have O3 := O.ext e3 o3
      refine c46 (n := n) (b := h1.sz + 1) O3 W hc VB3 OL hPk (by rw [List.length_map]; omega) (by omega) (by have := O.plt; omega) (by omega) (fun r y hy => by have := (O.r r y (lkG_mem hy)).row.lt O.ok; omega) fun h5 F5 o5 OL5 => ?_
      have low : ∀ j, inRow lv j → h1.sz + 1 ≤ j := fun j hj => own_row OL hj
      have e5 : Ext h h5 := F5.ext e3 O.ok fun j hj => by have := low j hj; omega
      have VB5 := F5.var VB3 fun q => by have := low _ q; omega
      have O5 := O.ext e5 o5
      have B5 : loadA h5 false 1 (.ptr h.sz 0 0 0) = some (.ptr T.p 0 0 0) := VB5.get rfl
      have LL : lenA h5 1 lv = some (.int .i64 (T.rs.length : Int)) := by have := OL5.view.len; rwa [List.length_map, rkl] at this
      refine z_of B5 ?_; refine z_nil ?_; refine z_fadr ?_; refine z_of O5.l3 ?_; refine z_of LL ?_
      have OL6 : Own (h.sz + 1) h5 2 lv ((rkeys T).map ck) := by
        rcases OL5 with q | ⟨id', r', u1, u⟩
        · exact .inl q
        · exact .inr ⟨id', r', by omega, u⟩
      refine loop h5 lv e5 o5 VB5 OL6 (n + 2) 0 h5 T X0 (by omega) (Nat.zero_le _) O5 ((Less.refl W).iff fun k' r' _ => ⟨fun q => q.elim, fun ⟨j, q, _⟩ => by omega⟩) (jfr 0 h h5 X0 hJ (Fr.of_ext e5)) (Fr.of_ext e5) (Nat.le_refl _) OL6 (fun j hj => own_lt (own_low OL6) o5 hj) VB5 (fun j hj => ?_) (Nat.le_refl _)
      obtain ⟨q1, q2⟩ := hX0 j hj
      have := e5.1
      exact ⟨by omega, q1, .inl q2, .inl hj⟩
    · obtain ⟨p, hp, hpe⟩ := List.mem_map.1 hv
      obtain ⟨r', y⟩ := p
      simp only [Prod.mk.injEq] at hpe
      obtain ⟨rfl, rfl⟩ := hpe
      refine z_ext0 ?_; refine z_cT ?_; refine z_of ent ?_; refine z_ext0 ?_
      have e4 : Ext h h4 := b4.ext e3 O.ok (by omega)
      have VB4 := b4.var VB3 (by omega)
      obtain ⟨h5, c1, c2, e5, o5, z5⟩ := alloc_v (z := [AV.int .i64 0, .str []]) o4 (by decide) rfl
      refine z_p c1 ?_
      obtain ⟨h6, w1, w2, w3, o6, w5⟩ := c2.wrs o5 (n := 2) (v := bk2 r') rfl rfl rfl
      refine z_u w1 ?_
      have RC : Var h6 h4.sz [.int .i64 r'.1, .str r'.2] := w2
      have e46 : Ext h4 h6 := w3.ext e5 o4 (Nat.le_refl _)
      have A6 : loadA h6 true 2 (.ptr h4.sz 0 0 0) = some (bk2 r') := RC.all rfl
      refine z_of A6 ?_
      obtain ⟨u, h7, q1, V7, e7, o7, z7, _⟩ := bslice1_v (sz := 2) (z := [AV.int .i64 0, .str []]) (v := bk2 r') o6 rfl (by decide) (by decide) rfl rfl rfl
      have V7 : View h7 2 u [ck r'] := V7
      refine z_p q1 ?_
      have e47 := ext_two e46 e7
      have OL4 : Own (h1.sz + 1) h4 2 lv ((done.map fun x => x.1).map ck) := by
        rcases OL with q | ⟨id', r1, u1, u2, u3, u⟩
        · exact .inl q
        · exact .inr ⟨id', r1, u1, u2, (Fr.of_but (X := fun j => j = h1.sz) rfl b4).row (by omega) u3, u⟩
      have s47 := e47.1
      obtain ⟨lv', h8, a1, a2, a3, a4, a5, a6⟩ := own_app2 (bytes := 24) (OL4.ext e47) (by decide) (by omega) o7 O.ok (ext_two e4 e47) (by omega) V7.src (by simp; omega) (by simp; omega)
      refine z_p a1 ?_
      have nin : (r', y) ∉ done := fun q => hnd (List.mem_map.2 ⟨_, q, rfl⟩)
      have mpe : mp (fun x : RD => AV.ptr x.id 0 0 0) (done ++ [(r', y)]) = mp (fun x : RD => AV.ptr x.id 0 0 0) done ++ [(r', .ptr y.id 0 0 0)] := by simp [mp]
      have hdl : done.length < T.rs.length := by
        have h1 : ((mp (fun x : RD => AV.ptr x.id 0 0 0) (done ++ [(r', y)])).map fun p => p.1).Nodup := by rw [mpe]; exact kiter_nodup bks IT4
        rw [mp_keys] at h1
        have := nodup_len h1 (b := T.rs.map fun p => p.1) fun a ha => by
          obtain ⟨q, hq, rfl⟩ := List.mem_map.1 ha
          refine List.mem_map.2 ⟨q, ?_, rfl⟩
          rcases List.mem_append.1 hq with hq | hq
          · exact hin q hq
          · simp at hq; subst hq; exact hp
        rw [List.length_map, List.length_map, List.length_append] at this
        simp at this; omega
      have f48 : Fr (inRow lv) h4 h8 := (Fr.of_ext e47).trans a5
      have low : ∀ j, inRow lv j → h1.sz + 1 ≤ j := fun j hj => own_row OL hj
      have s8 := f48.sz
      refine ih h8 lv' (done ++ [(r', y)]) (by rw [List.length_append]; simp; omega) (by rw [List.length_append]; simp; omega) a4 a3 (by omega) (f48.var VB4 fun q => by have := low _ q; omega) ?_ ?_ ?_
      · rw [mpe]
        exact f48.kiter IT4 (fun q => by have := low _ q; omega) (fun q => by have := low _ q; omega)
      · intro a ha
        rcases List.mem_append.1 ha with ha | ha
        · exact hin a ha
        · simp at ha; subst ha; exact hp
      · rw [List.map_append, List.map_append]; exact a2
end
end Go.Proofs.Ytbamgdknkhhikaa
namespace Go.Proofs.Ytbamgdknkhhikaa
open Go.Ab
set_option linter.unusedSimpArgs false
set_option linter.unusedVariables false
def leafOk (kind : Int) (b : Bool) (n : Int) (t : Str) (len : Nat) : Bool :=
  if kind = 0 then !b && decide (n = 0) && decide (t = []) && decide (len = 0)
  else if kind = 1 then decide (n = 0) && decide (t = []) && decide (len = 0)
  else if kind = 2 then !b && decide (t = []) && decide (len = 0)
  else if kind = 3 then !b && decide (n = 0) && decide (len = 0) && decide (t.length ≤ 65536)
  else if kind = 5 then !b && decide (t = []) && decide (len = 0) && decide (1 ≤ n)
  else false
def ckV : Nat → Val → Bool
  | 0 => fun v => match v with | .mk kind b n t l => leafOk kind b n t l.length
  | k + 1 => fun v => match v with
    | .mk kind b n t l => if kind = 4 then !b && decide (n = 0) && decide (t = []) && decide (l.length ≤ 4096) && l.all (ckV k) else leafOk kind b n t l.length
theorem eqV_b (h : AHeap) (a b : Bool) : eqV h false .bool (.bool a) (.bool b) = some (.bool (a == b)) := rfl
theorem and_ll {h : AHeap} {c r : Bool} {p q a b : AV} {op : BinOp} {k : AV → Bool} (ha : loadA h false 1 p = some a) (hb : loadA h false 1 q = some b) (hr : binA op a b = some (.bool r)) :
    (optB (grdO (wantV (.bool c) true) (some p)) fun v15 => optB (grdO (wantV (.bool c) true) (loadA h false 1 v15)) fun v16 => optB (grdO (wantV (.bool c) true) (some q)) fun v17 => optB (grdO (wantV (.bool c) true) (loadA h false 1 v17)) fun v18 => optB (grdO (wantV (.bool c) true) (binA op v16 v18)) fun v19 => optB (pickV (.bool c) v19 (.bool false)) fun v20 => k v20) = k (.bool (c && r)) := by
  cases c with
  | false => rfl
  | true => simp only [wantV_true, grdO_true, optB_some, ha, hb, hr, pickV_true, Bool.true_and]
theorem and_len {h : AHeap} {c : Bool} {p : AV} {t : Str} {k : AV → Bool} (ha : loadA h false 1 p = some (.str t)) :
    (optB (grdO (wantV (.bool c) true) (some p)) fun v27 => optB (grdO (wantV (.bool c) true) (loadA h false 1 v27)) fun v28 => optB (grdO (wantV (.bool c) true) (lenA h 0 v28)) fun v29 => optB (grdO (wantV (.bool c) true) (binA .leq v29 (.int .i64 65536))) fun v30 => optB (pickV (.bool c) v30 (.bool false)) fun v31 => k v31) = k (.bool (c && decide (t.length ≤ 65536))) := by
  have e1 : decide ((t.length : Int) ≤ 65536) = decide (t.length ≤ 65536) := by congr 1; apply propext; omega
  cases c with
  | false => rfl
  | true => simp only [wantV_true, grdO_true, optB_some, ha, lenA_str, binA_leq, e1, pickV_true, Bool.true_and]
theorem and_end {h : AHeap} {c : Bool} {p q lv : AV} {len : Nat} {kind : Int} {k : AV → Bool} (ha : loadA h false 1 p = some lv) (L : lenA h 1 lv = some (.int .i64 (len : Int))) (hb : loadA h false 1 q = some (.int .i64 kind)) :
    (optB (grdO (wantV (.bool c) true) (some p)) fun v32 => optB (grdO (wantV (.bool c) true) (loadA h false 1 v32)) fun v33 => optB (grdO (wantV (.bool c) true) (lenA h 1 v33)) fun v34 => optB (grdO (wantV (.bool c) true) (binA .eql v34 (.int .i64 0))) fun v35 => optB (grdO (wantV (.bool c) true) (some v35)) fun v36 => optB (grdO (wantV v36 false) (some q)) fun v37 => optB (grdO (wantV v36 false) (loadA h false 1 v37)) fun v38 => optB (grdO (wantV v36 false) (binA .eql v38 (.int .i64 4))) fun v39 => optB (grdO (wantV (.bool c) true) (pickV v36 (.bool true) v39)) fun v40 => optB (pickV (.bool c) v40 (.bool false)) fun v41 => k v41) = k (.bool (c && (decide (len = 0) || decide (kind = 4)))) := by
  have e2 : decide ((len : Int) = 0) = decide (len = 0) := by congr 1; apply propext; omega
  cases c with
  | false => rfl
  | true =>
    rw [wantV_true, grdO_true, optB_some, grdO_true, ha, optB_some, grdO_true, L, optB_some, grdO_true, binA_eql, e2, optB_some, grdO_true, optB_some]
    cases hd : decide (len = 0) with
    | true => rfl
    | false => simp only [wantV_false, Bool.not_false, grdO_true, optB_some, hb, binA_eql, pickV_false, pickV_true, Bool.true_and, Bool.false_or]
theorem last64 {n p q len : Nat} {h : AHeap} {kind x x' : Int} {b b' : Bool} {t t' : Str} {lv k0 l0 : AV} {K : Kont} {call : CallFn} (V : Var h p [.int .i64 kind, .bool b, .int .i64 x, .str t, lv]) (Q : Var h q [k0, .bool b', .int .i64 x', .str t', l0]) (L : lenA h 1 lv = some (.int .i64 (len : Int))) :
    p67_64 call n (.ptr p 0 0 0) (.ptr q 0 0 0) h K = K (.bool ((b == b') && decide (x = x') && decide (t = t') && decide (t.length ≤ 65536) && (decide (len = 0) || decide (kind = 4)))) h := by
  unfold p67_64
  have e : ∀ o, fadrA o (.ptr p 0 0 0) = some (.ptr p 0 0 o) := fun o => by rw [fadrA_ptr, Nat.zero_add]
  have e' : ∀ o, fadrA o (.ptr q 0 0 0) = some (.ptr q 0 0 o) := fun o => by rw [fadrA_ptr, Nat.zero_add]
  rw [e, optB_some, V.load, partA_false, nth_succ, nth_zero, optB_some, e', optB_some, Q.load, partA_false, nth_succ, nth_zero, optB_some, eqV_b, optB_some, e, e',
    and_ll (a := .int .i64 x) (b := .int .i64 x') (r := decide (x = x')) (by rw [V.load]; rfl) (by rw [Q.load]; rfl) (binA_eql _ _ _), e, e',
    and_ll (a := .str t) (b := .str t') (r := decide (t = t')) (by rw [V.load]; rfl) (by rw [Q.load]; rfl) (binA_seql _ _),
    and_len (t := t) (by rw [V.load]; rfl), e, e, and_end (lv := lv) (len := len) (kind := kind) (by rw [V.load]; rfl) L (by rw [V.load]; rfl)]
theorem ckV_leaf {k : Nat} {kind : Int} {b : Bool} {n : Int} {t : Str} {l : List Val} (h : kind ≠ 4) : ckV k (.mk kind b n t l) = leafOk kind b n t l.length := by
  cases k with
  | zero => rfl
  | succ k => simp only [ckV, if_neg h]
theorem ckV_list {k : Nat} {b : Bool} {n : Int} {t : Str} {l : List Val} : ckV (k + 1) (.mk 4 b n t l) = (!b && decide (n = 0) && decide (t = []) && decide (l.length ≤ 4096) && l.all (ckV k)) := by
  simp only [ckV, if_pos]
theorem or_deep {h : AHeap} {p lv : AV} {len : Nat} {deep : Int} {k : AV → Bool} (ha : loadA h false 1 p = some lv) (L : lenA h 1 lv = some (.int .i64 (len : Int))) :
    (optB (binA .geq (.int .i64 deep) (.int .i64 30)) fun v64 => optB (grdO (wantV v64 false) (some p)) fun v65 => optB (grdO (wantV v64 false) (loadA h false 1 v65)) fun v66 => optB (grdO (wantV v64 false) (lenA h 1 v66)) fun v67 => optB (grdO (wantV v64 false) (binA .gtr v67 (.int .i64 4096))) fun v68 => optB (pickV v64 (.bool true) v68) fun v69 => k v69) = k (.bool (decide (30 ≤ deep) || decide (4096 < len))) := by
  have e : decide ((4096 : Int) < (len : Int)) = decide (4096 < len) := by congr 1; apply propext; omega
  rw [binA_geq, optB_some]
  cases hd : decide (30 ≤ deep) with
  | true => rfl
  | false => simp only [wantV_false, Bool.not_false, grdO_true, optB_some, ha, L, binA_gtr, e, pickV_false, Bool.false_or]
theorem leaf5 {a b c d e : AV} (ha : a.leaf = true) (hb : b.leaf = true) (hc : c.leaf = true) (hd : d.leaf = true) (he : e.leaf = true) : (AV.agg [a, b, c, d, e]).cells = [a, b, c, d, e] ∧ allLeaf [a, b, c, d, e] = true := by
  refine ⟨rfl, ?_⟩
  show (bif a.leaf then (bif b.leaf then (bif c.leaf then (bif d.leaf then (bif e.leaf then true else false) else false) else false) else false) else false) = true
  rw [ha, hb, hc, hd, he]; rfl
theorem leafOk0 {b : Bool} {x : Int} {t : Str} {len : Nat} : (((b == false) && decide (x = 0) && decide (t = []) && decide (t.length ≤ 65536) && (decide (len = 0) || decide ((0 : Int) = 4)))) = leafOk 0 b x t len := by
  by_cases ht : t = []
  · subst ht; cases b <;> simp [leafOk]
  · cases b <;> simp [leafOk, ht]
theorem leafOk1 {b : Bool} {x : Int} {t : Str} {len : Nat} : (((b == b) && decide (x = 0) && decide (t = []) && decide (t.length ≤ 65536) && (decide (len = 0) || decide ((1 : Int) = 4)))) = leafOk 1 b x t len := by
  by_cases ht : t = []
  · subst ht; cases b <;> simp [leafOk]
  · cases b <;> simp [leafOk, ht]
theorem leafOk2 {b : Bool} {x : Int} {t : Str} {len : Nat} : (((b == false) && decide (x = x) && decide (t = []) && decide (t.length ≤ 65536) && (decide (len = 0) || decide ((2 : Int) = 4)))) = leafOk 2 b x t len := by
  by_cases ht : t = []
  · subst ht; cases b <;> simp [leafOk]
  · cases b <;> simp [leafOk, ht]
theorem leafOk3 {b : Bool} {x : Int} {t : Str} {len : Nat} : (((b == false) && decide (x = 0) && decide (t = t) && decide (t.length ≤ 65536) && (decide (len = 0) || decide ((3 : Int) = 4)))) = leafOk 3 b x t len := by
  cases b <;> simp [leafOk, Bool.and_comm, Bool.and_assoc, Bool.and_left_comm]
theorem leafOk5 {b : Bool} {x : Int} {t : Str} {len : Nat} : (((b == false) && decide (x = if x < 1 then 1 else x) && decide (t = []) && decide (t.length ≤ 65536) && (decide (len = 0) || decide ((5 : Int) = 4)))) = leafOk 5 b x t len := by
  have e : decide (x = if x < 1 then 1 else x) = decide (1 ≤ x) := by
    congr 1; apply propext
    by_cases h : x < 1
    · rw [if_pos h]; omega
    · rw [if_neg h]; omega
  rw [e]
  by_cases ht : t = []
  · subst ht; cases b <;> simp [leafOk, Bool.and_comm]
  · cases b <;> simp [leafOk, ht]
theorem leafOk_else {kind : Int} {b : Bool} {x : Int} {t : Str} {len : Nat} (h0 : kind ≠ 0) (h1 : kind ≠ 1) (h2 : kind ≠ 2) (h3 : kind ≠ 3) (h5 : kind ≠ 5) : leafOk kind b x t len = false := by
  simp only [leafOk, if_neg h0, if_neg h1, if_neg h2, if_neg h3, if_neg h5]
theorem mm_eq (x : Int) : mmV true [.int .i64 x, .int .i64 1] = some (.int .i64 (if x < 1 then 1 else x)) := by
  simp only [mmV, mmA, Nat.beq_refl, cond_true, iltb_dec]
  by_cases h : x < 1
  · simp [h]
  · simp [h]
theorem st_some {o : Option AHeap} {h : AHeap} {k : Kont} (e : o = some h) (hk : k (.tup []) h = true) : optP (unit o) k = true := by subst e; exact hk
theorem pre67 {n : Nat} {h : AHeap} {kind x deep : Int} {b : Bool} {t : Str} {lv : AV} {len : Nat} {K : Kont} (ho : h.Ok) (hlf : lv.leaf = true) (L : ∀ h', Ext h h' → lenA h' 1 lv = some (.int .i64 (len : Int)))
    (kl : kind ≠ 4 → ∀ h', Ext h h' → h'.Ok → K (.bool (leafOk kind b x t len)) h' = true)
    (k4 : kind = 4 → ∀ h' p q, Ext h h' → h'.Ok → Var h' p [.int .i64 kind, .bool b, .int .i64 x, .str t, lv] → Var h' q [.int .i64 kind, .bool false, .int .i64 0, .str [], .nilSlc] → (condB (.bool (decide (30 ≤ deep) || decide (4096 < len))) (K (.bool false) h') (p67_39 (callN E n) n (.int .i64 deep) (.ptr p 0 0 0) (.ptr q 0 0 0) h' K)) = true) :
    callN E (n + 1) (.func 67) [.agg [.int .i64 kind, .bool b, .int .i64 x, .str t, lv], .int .i64 deep] h K = true := by
  obtain ⟨lf1, lf2⟩ := leaf5 (a := .int .i64 kind) (b := .bool b) (c := .int .i64 x) (d := .str t) (e := lv) rfl rfl rfl rfl hlf
  apply d67
  unfold s67
  rw [box_eq (n := 5) (v := .agg [.int .i64 kind, .bool b, .int .i64 x, .str t, lv]) (by rw [lf1]; rfl) (by decide) (by rw [lf1]; exact lf2), optP_some, lf1]
  have e1 := ext_newRow ho [[AV.int .i64 kind, .bool b, .int .i64 x, .str t, lv]] 5
  have o1 := ok_newRow ho [[AV.int .i64 kind, .bool b, .int .i64 x, .str t, lv]] 5
  have V1 := var_new h [AV.int .i64 kind, .bool b, .int .i64 x, .str t, lv]
  simp only [List.length_cons, List.length_nil, Nat.zero_add] at V1
  have s1 : (Ab.newRow h [[AV.int .i64 kind, .bool b, .int .i64 x, .str t, lv]] 5).sz = h.sz + 1 := rfl
  generalize Ab.newRow h [[AV.int .i64 kind, .bool b, .int .i64 x, .str t, lv]] 5 = h1 at *
  have hb : buildV [AV.int .i64 0, .bool false, .int .i64 0, .str [], .nilSlc] [(0, 1, AV.int .i64 kind)] = some (.agg [.int .i64 kind, .bool false, .int .i64 0, .str [], .nilSlc]) := rfl
  rw [fadrA_ptr, optB_some, Nat.zero_add, V1.load, partA_false, nth_zero, optB_some, hb, optB_some, alloc_set (n := 5) rfl (by decide) rfl rfl rfl]
  have hcc : (AV.agg [AV.int .i64 kind, .bool false, .int .i64 0, .str [], .nilSlc]).cells = [AV.int .i64 kind, .bool false, .int .i64 0, .str [], .nilSlc] := rfl
  rw [hcc]
  have e2 := ext_newRow o1 [[AV.int .i64 kind, .bool false, .int .i64 0, .str [], .nilSlc]] 5
  have o2 := ok_newRow o1 [[AV.int .i64 kind, .bool false, .int .i64 0, .str [], .nilSlc]] 5
  have Q2 := var_new h1 [AV.int .i64 kind, .bool false, .int .i64 0, .str [], .nilSlc]
  simp only [List.length_cons, List.length_nil, Nat.zero_add] at Q2
  have V2 := V1.ext e2
  generalize Ab.newRow h1 [[AV.int .i64 kind, .bool false, .int .i64 0, .str [], .nilSlc]] 5 = h2 at *
  have hpq : h.sz ≠ h1.sz := by omega
  have hq : h.sz ≤ h1.sz := by omega
  have put2 : ∀ o, Ext h (h2.put h1.sz o) := fun o => ext_put (e1.trans e2) ho (by omega) o
  have hql : h1.sz < h2.sz := Q2.lt o2
  generalize h.sz = p at *
  generalize h1.sz = q at *
  have E2 := e1.trans e2
  have ef : ∀ o, fadrA o (.ptr p 0 0 0) = some (.ptr p 0 0 o) := fun o => by rw [fadrA_ptr, Nat.zero_add]
  have eg : ∀ o, fadrA o (.ptr q 0 0 0) = some (.ptr q 0 0 o) := fun o => by rw [fadrA_ptr, Nat.zero_add]
  have stay := L h2 E2
  have set : ∀ (o : Nat) (w : AV), o < 5 → w.leaf = true → ∃ h3, storeA h2 1 (.ptr q 0 0 o) w = some h3 ∧ Ext h h3 ∧ h3.Ok ∧ Var h3 p [.int .i64 kind, .bool b, .int .i64 x, .str t, lv] ∧ Var h3 q ([AV.int .i64 kind, .bool false, .int .i64 0, .str [], .nilSlc].set o w) := by
    intro o w h5 hw
    exact ⟨_, Q2.set1 (by simpa using h5) hw, put2 _, o2.put hql _, V2.other hpq _, var_put q _⟩
  have cp : ∀ (o : Nat) (w : AV) (k : AV → AV → Bool), loadA h2 false 1 (.ptr p 0 0 o) = some w → (optB (fadrA o (.ptr p 0 0 0)) fun v43 => optB (loadA h2 false 1 v43) fun v44 => optB (fadrA o (.ptr q 0 0 0)) fun v45 => k v44 v45) = k w (.ptr q 0 0 o) := by
    intro o w k hw
    rw [ef, eg, optB_some, hw, optB_some, optB_some]
  have k11 := fun k => cp 1 (.bool b) k (by rw [V2.load]; rfl)
  have k22 := fun k => cp 2 (.int .i64 x) k (by rw [V2.load]; rfl)
  have k33 := fun k => cp 3 (.str t) k (by rw [V2.load]; rfl)
  have k25 : ∀ (k : AV → AV → Bool), (optB (fadrA 2 (.ptr p 0 0 0)) fun v43 => optB (loadA h2 false 1 v43) fun v44 => optB (mmV true [v44, .int .i64 1]) fun v55 => optB (fadrA 2 (.ptr q 0 0 0)) fun v45 => k v55 v45) = k (.int .i64 (if x < 1 then 1 else x)) (.ptr q 0 0 2) := by
    intro k
    rw [ef, eg, optB_some, V2.load, partA_false, nth_succ, nth_succ, nth_zero, optB_some, mm_eq, optB_some, optB_some]
  rw [optB_some, V2.load, partA_false, nth_zero, optB_some, binA_eql, optB_some]
  by_cases c0 : kind = 0
  · subst c0
    rw [condB_t (by decide), last64 V2 Q2 stay, leafOk0]
    exact kl (by decide) h2 E2 o2
  rw [condB_f (by simp [c0]), binA_eql, optB_some]
  by_cases c1 : kind = 1
  · subst c1
    obtain ⟨h3, w1, w2, w3, w4, w5⟩ := set 1 (.bool b) (by decide) rfl
    rw [condB_t (by decide), k11]
    refine st_some w1 ?_
    rw [last64 w4 w5 (L h3 w2), leafOk1]
    exact kl (by decide) h3 w2 w3
  rw [condB_f (by simp [c1]), binA_eql, optB_some]
  by_cases c2 : kind = 2
  · subst c2
    obtain ⟨h3, w1, w2, w3, w4, w5⟩ := set 2 (.int .i64 x) (by decide) rfl
    rw [condB_t (by decide), k22]
    refine st_some w1 ?_
    rw [last64 w4 w5 (L h3 w2), leafOk2]
    exact kl (by decide) h3 w2 w3
  rw [condB_f (by simp [c2]), binA_eql, optB_some]
  by_cases c5 : kind = 5
  · subst c5
    obtain ⟨h3, w1, w2, w3, w4, w5⟩ := set 2 (.int .i64 (if x < 1 then 1 else x)) (by decide) rfl
    rw [condB_t (by decide), k25]
    refine st_some w1 ?_
    rw [last64 w4 w5 (L h3 w2), leafOk5]
    exact kl (by decide) h3 w2 w3
  rw [condB_f (by simp [c5]), binA_eql, optB_some]
  by_cases c3 : kind = 3
  · subst c3
    obtain ⟨h3, w1, w2, w3, w4, w5⟩ := set 3 (.str t) (by decide) rfl
    rw [condB_t (by decide), k33]
    refine st_some w1 ?_
    rw [last64 w4 w5 (L h3 w2), leafOk3]
    exact kl (by decide) h3 w2 w3
  rw [condB_f (by simp [c3]), binA_eql, optB_some]
  by_cases c4 : kind = 4
  · rw [condB_t (by simp [c4]), ef 4, or_deep (lv := lv) (len := len) (by rw [V2.load]; rfl) stay]
    exact k4 c4 h2 p q E2 o2 V2 Q2
  · rw [condB_f (by simp [c4])]
    have := kl c4 h2 E2 o2
    rw [leafOk_else c0 c1 c2 c3 c5] at this
    exact this
theorem _root_.Go.Ab.RV.agg {h : AHeap} {a : List AV} {v : Val} (R : RV h a v) : partA true 0 5 a = some (.agg a) ∧ (AV.agg a).cells.length = 5 ∧ allLeaf (AV.agg a).cells = true ∧ (AV.agg a).cells = a := by
  cases v with
  | mk kind b x t l =>
    obtain ⟨lv, rfl, V, _⟩ := R.cells
    obtain ⟨lf1, lf2⟩ := leaf5 (a := .int .i64 kind) (b := .bool b) (c := .int .i64 x) (d := .str t) (e := lv) rfl rfl rfl rfl V.leaf
    exact ⟨rfl, rfl, by rw [lf1]; exact lf2, lf1⟩
theorem c67 : ∀ (k n : Nat) {h : AHeap} {a : List AV} {v : Val} {deep : Int} {K : Kont}, RV h a v → h.Ok → deep + (k : Int) = 30 → k ≤ 30 → szV v + k ≤ n → n < lim → (∀ h', Ext h h' → h'.Ok → K (.bool (ckV k v)) h' = true) → callN E (n + 1) (.func 67) [.agg a, .int .i64 deep] h K = true := by
  intro k
  induction k with
  | zero =>
    intro n h a v deep K R ho hd _ hsz hL kk
    cases v with
    | mk kind b x t l =>
      obtain ⟨lv, rfl, V, _⟩ := R.cells
      refine pre67 (len := l.length) ho V.leaf (fun h' e => (V.ext e).len) (fun h4 h' e o => ?_) (fun h4 h' p q e o _ _ => ?_)
      · have := kk h' e o
        rw [ckV_leaf h4] at this; exact this
      · subst h4
        rw [condB_t (by rw [decide_eq_true (show (30 : Int) ≤ deep by omega)]; rfl)]
        exact kk h' e o
  | succ k ih =>
    intro n h a v deep K R ho hd hk hsz hL kk
    cases v with
    | mk kind b x t l =>
      obtain ⟨lv, rfl, V, _⟩ := R.cells
      simp only [szV] at hsz
      have hlen := szVs_len l
      refine pre67 (len := l.length) ho V.leaf (fun h' e => (V.ext e).len) (fun h4 h' e o => ?_) (fun h4 h1 p q e o P Q => ?_)
      · have := kk h' e o
        rw [ckV_leaf h4] at this; exact this
      · subst h4
        have hd' : decide ((30 : Int) ≤ deep) = false := decide_eq_false (by omega)
        rw [hd', Bool.false_or]
        by_cases hl : l.length ≤ 4096
        · rw [condB_f (decide_eq_false (by omega))]
          unfold p67_39
          rw [fadrA_ptr, optB_some, Nat.zero_add, P.load, partA_false, nth_succ, nth_succ, nth_succ, nth_succ, nth_zero, optB_some, (V.ext e).len, optB_some]
          obtain ⟨n, rfl⟩ : ∃ j, n = j + 1 := ⟨n - 1, by omega⟩
          have loop : ∀ (m i : Nat) (h2 : AHeap), Ext h1 h2 → h2.Ok → i ≤ l.length → l.length - i < m → (l.take i).all (ckV k) = true → l67_42 (callN E (n + 1)) (n + 1) m (.int .i64 deep) (.ptr p 0 0 0) (.ptr q 0 0 0) lv (.int .i64 (l.length : Int)) (.int .i64 (i : Int)) h2 K = true := by
            intro m
            induction m with
            | zero => intro i h2 _ _ _ hm; omega
            | succ m ihm =>
              intro i h2 e2 o2 hi hm hall
              unfold l67_42
              unfold b67_42
              rw [binA_lss, optB_some]
              by_cases hlt : i < l.length
              · have hci := List.getElem?_eq_getElem hlt
                have ht : l.take (i + 1) = l.take i ++ [l[i]] := by rw [List.take_succ_eq_append_getElem hlt]
                have hmem := szVs_mem (List.getElem_mem hlt)
                obtain ⟨id, g, j, ee, p1, p2, R2⟩ := (V.ext (e.trans e2)).at hci
                obtain ⟨g1, g2, g3, g4⟩ := R2.agg
                have hfalse : ckV k l[i] = false → ckV (k + 1) (.mk 4 b x t l) = false := by
                  intro hf
                  rw [ckV_list]
                  have : l.all (ckV k) = false := by
                    rw [List.all_eq_false]
                    exact ⟨l[i], List.getElem_mem hlt, by rw [hf]; decide⟩
                  rw [this, Bool.and_false]
                generalize l[i] = w at *
                have hll : ∀ a : Nat → Prop, True := fun _ => trivial
                rw [condB_t (by simpa using hlt), p1, optB_some, p2, g1, optB_some, alloc_set (n := 5) rfl (by decide) rfl g2 g3]
                have e3 := ext_newRow o2 [ee] 5
                have o3 := ok_newRow o2 [ee] 5
                have V3 := var_new h2 ee
                have hel : ee.length = 5 := by rw [← g4]; exact g2
                rw [hel] at V3
                rw [g4]
                generalize Ab.newRow h2 [ee] 5 = h3 at *
                rw [V3.load, g1, optB_some, add64 (by omega) (by omega), optB_some]
                refine ih n (R2.ext e3) o3 (by omega) (by omega) (by omega) (by omega) ?_
                intro h4 e4 o4
                rw [notA_bool, optB_some]
                cases hc : ckV k w with
                | false =>
                  rw [Bool.not_false, condB_true]
                  have := kk h4 (e.trans (e2.trans (e3.trans e4))) o4
                  rw [hfalse hc] at this
                  exact this
                | true =>
                  rw [Bool.not_true, condB_false, inc64 (by omega), optB_some]
                  refine ihm (i + 1) h4 (e2.trans (e3.trans e4)) o4 (by omega) (by omega) ?_
                  rw [ht, List.all_append, hall]
                  simp [hc]
              · have hil : l.take i = l := List.take_of_length_le (by omega)
                rw [hil] at hall
                rw [condB_f (by simpa using hlt), last64 (P.ext e2) (Q.ext e2) (V.ext (e.trans e2)).len]
                have := kk h2 (e.trans e2) o2
                rw [ckV_list, hall, decide_eq_true hl] at this
                have e5 : (((b == false) && decide (x = 0) && decide (t = []) && decide (t.length ≤ 65536) && (decide (l.length = 0) || decide ((4 : Int) = 4)))) = (!b && decide (x = 0) && decide (t = []) && true && true) := by
                  by_cases ht : t = []
                  · subst ht; cases b <;> simp
                  · cases b <;> simp [ht]
                rw [e5]; exact this
          exact loop (n + 1) 0 h1 (Ext.refl _) o (Nat.zero_le _) (by omega) rfl
        · rw [condB_t (decide_eq_true (by omega))]
          have := kk h1 e o
          rw [ckV_list, decide_eq_false hl, Bool.and_false, Bool.false_and] at this
          exact this
theorem c57 {n : Nat} {h : AHeap} {a : List AV} {v : Val} {K : Kont} (R : RV h a v) (ho : h.Ok) (hn : szV v + 30 ≤ n) (hL : n < lim) (k : ∀ h', Ext h h' → h'.Ok → K (.bool (ckV 30 v)) h' = true) : callN E (n + 2) (.func 57) [.agg a] h K = true := by
  obtain ⟨g1, g2, g3, g4⟩ := R.agg
  have hel : a.length = 5 := by rw [← g4]; exact g2
  apply d57
  unfold s57
  rw [box_eq (n := 5) g2 (by decide) g3, optP_some, g4]
  have e1 := ext_newRow ho [a] 5
  have o1 := ok_newRow ho [a] 5
  have V1 := var_new h a
  rw [hel] at V1
  generalize Ab.newRow h [a] 5 = h1 at *
  rw [V1.load, g1, optB_some]
  exact c67 30 n (R.ext e1) o1 (by omega) (Nat.le_refl _) hn hL (fun h' e o => k h' (e1.trans e) o)
end Go.Proofs.Ytbamgdknkhhikaa
namespace Go.Proofs.Ytbamgdknkhhikaa
open Go.Ab
set_option linter.unusedSimpArgs false
set_option linter.unusedVariables false
def badV (l : List Val) : Bool := l.any fun v => !ckV 30 v
def badE (l : List Elm) : Bool := l.any fun e => badV e.vs
theorem any_take {α : Type} {p : α → Bool} {l : List α} {i : Nat} (h : i < l.length) : (l.take (i + 1)).any p = ((l.take i).any p || p l[i]) := by
  rw [List.take_succ_eq_append_getElem h, List.any_append]; simp
section
variable {h : AHeap} {K : Kont} {n : Nat} {v : AV}
theorem c56 {a : List AV} {x : Val} (R : RV h a x) (ho : h.Ok) (hn : szV x + 30 ≤ n) (hL : n < lim) (k : ∀ h', Ext h h' → h'.Ok → K (.bool (!ckV 30 x)) h' = true) : callN E (n + 3) (.func 56) [.agg a] h K = true := by
  obtain ⟨g1, g2, g3, g4⟩ := R.agg
  apply d56
  unfold s56
  obtain ⟨h1, q1, V1, e1, o1, z1⟩ := box_v (n := 5) (v := .agg a) ho g2 (by decide) g3
  rw [g4] at V1
  refine z_p q1 ?_
  have hel : a.length = 5 := by rw [← g4]; exact g2
  have A : loadA h1 true 5 (.ptr h.sz 0 0 0) = some (.agg a) := V1.all hel
  refine z_of A ?_
  refine c57 (R.ext e1) o1 hn hL fun h' e o => ?_
  refine z_not ?_
  exact k h' (ext_two e1 e) o
theorem c66 {l : List Val} (V : VV h v l) (ho : h.Ok) (hn : szVs l + 31 ≤ n) (hL : n < lim - 5)
    (k0 : badV l = false → ∀ h', Ext h h' → h'.Ok → K (.int .i64 (-1)) h' = true) (k1 : badV l = true → ∀ h' (i : Nat), Ext h h' → h'.Ok → K (.int .i64 (i : Int)) h' = true) :
    callN E (n + 4) (.func 66) [v, .fn (.func 56) [] []] h K = true := by
  have hlm : lim = 4611686018427387904 := rfl
  apply d66
  unfold s66
  refine z_of V.len ?_
  have hlen := szVs_len l
  suffices H : ∀ m i h', l.length - i < m → i ≤ l.length → Ext h h' → h'.Ok → badV (l.take i) = false → l66_6 (callN E (n + 3)) (n + 3) m v (.fn (.func 56) [] []) (.int .i64 (l.length : Int)) (.int .i64 (i : Int)) h' K = true from H (n + 3) 0 h (by omega) (Nat.zero_le _) (Ext.refl _) ho rfl
  intro m
  induction m with
  | zero => intro i h' hm; omega
  | succ m ih =>
    intro i h1 hm hi e o hb
    unfold l66_6 b66_6
    refine z_lss ?_
    by_cases hlt : i < l.length
    · refine z_ct (decide_eq_true (by omega)) ?_
      obtain ⟨id, g, j, ee, p1, p2, R⟩ := (V.ext e).at (List.getElem?_eq_getElem hlt)
      obtain ⟨g1, g2, g3, g4⟩ := R.agg
      have A : loadA h1 true 5 (.ptr id g j 0) = some (.agg ee) := by rw [p2]; exact g1
      have hm2 := szVs_mem (List.getElem_mem hlt)
      refine z_of (p1 .i64) ?_; refine z_of A ?_; refine z_cv ?_
      refine c56 (n := n) R o (by omega) (by omega) fun h2 e2 o2 => ?_
      have hst : badV (l.take (i + 1)) = !ckV 30 l[i] := by
        have := any_take (p := fun v => !ckV 30 v) hlt
        unfold badV at hb ⊢
        rw [this, hb, Bool.false_or]
      cases hc : ckV 30 l[i] with
      | false =>
        refine z_cT ?_
        refine k1 ?_ h2 i (ext_two e e2) o2
        unfold badV
        rw [List.any_eq_true]
        exact ⟨l[i], List.getElem_mem hlt, by rw [hc]; rfl⟩
      | true =>
        refine z_cF ?_
        refine z_of (inc64 (i := i) (by omega)) ?_
        exact ih (i + 1) h2 (by omega) (by omega) (ext_two e e2) o2 (by rw [hst, hc]; rfl)
    · refine z_cf (decide_eq_false (by omega)) ?_
      rw [List.take_of_length_le (by omega)] at hb
      exact k0 hb h1 e o
theorem c35 {l : List Val} (V : VV h v l) (ho : h.Ok) (hn : szVs l + 31 ≤ n) (hL : n < lim - 5) (k : ∀ h', Ext h h' → h'.Ok → K (.bool (badV l)) h' = true) : callN E (n + 6) (.func 35) [v] h K = true := by
  apply d35
  unfold s35
  apply d55
  unfold s55
  refine c66 V ho hn hL (fun hb h' e o => ?_) (fun hb h' i e o => ?_)
  · have := k h' e o
    rw [hb] at this
    refine z_geq ?_
    exact this
  · have := k h' e o
    rw [hb] at this
    refine z_geq ?_
    have e : decide ((0 : Int) ≤ (i : Int)) = true := decide_eq_true (by omega)
    rw [e]; exact this
theorem REl.agg {e : Elm} {a : List AV} (R : REl h a e) : partA true 0 3 a = some (.agg a) ∧ (AV.agg a).cells.length = 3 ∧ allLeaf (AV.agg a).cells = true ∧ (AV.agg a).cells = a := by
  obtain ⟨vv, rfl, V, _⟩ := R
  refine ⟨rfl, rfl, ?_, rfl⟩
  have := V.leaf
  simp only [AV.cells, allLeaf, this]; rfl
theorem c37 {e : Elm} {a : List AV} (R : REl h a e) (ho : h.Ok) (hn : szVs e.vs + 31 ≤ n) (hL : n < lim - 5) (k : ∀ h', Ext h h' → h'.Ok → K (.bool (badV e.vs)) h' = true) : callN E (n + 7) (.func 37) [.agg a] h K = true := by
  obtain ⟨g1, g2, g3, g4⟩ := R.agg
  apply d37
  unfold s37
  obtain ⟨h1, q1, V1, e1, o1, z1⟩ := box_v (n := 3) (v := .agg a) ho g2 (by decide) g3
  rw [g4] at V1
  refine z_p q1 ?_
  obtain ⟨vv, rfl, V, _⟩ := R
  have A : loadA h1 false 1 (.ptr h.sz 0 0 2) = some vv := V1.get rfl
  refine z_fadr ?_; refine z_of A ?_
  exact c35 (V.ext e1) o1 hn hL fun h' e o => k h' (ext_two e1 e) o
theorem c36 {l : List Elm} (V : EV h v l) (ho : h.Ok) (hn : szL szEl l + 31 ≤ n) (hL : n < lim - 9) (k : ∀ h', Ext h h' → h'.Ok → K (.bool (badE l)) h' = true) : callN E (n + 9) (.func 36) [v, .fn (.func 37) [] []] h K = true := by
  have hlm : lim = 4611686018427387904 := rfl
  apply d36
  unfold s36
  apply d58
  unfold s58
  refine z_of V.len ?_
  have hlen : l.length ≤ szL szEl l := szL_length szEl_pos l
  suffices H : ∀ m i h', l.length - i < m → i ≤ l.length → Ext h h' → h'.Ok → badE (l.take i) = false → l58_6 (callN E (n + 7)) (n + 7) m v (.fn (.func 37) [] []) (.int .i64 (l.length : Int)) (.int .i64 (i : Int)) h' (fun v1 h => optB (binA .geq v1 (.int .i64 0)) fun v2 => K v2 h) = true from H (n + 7) 0 h (by omega) (Nat.zero_le _) (Ext.refl _) ho rfl
  intro m
  induction m with
  | zero => intro i h' hm; omega
  | succ m ih =>
    intro i h1 hm hi e o hb
    unfold l58_6 b58_6
    refine z_lss ?_
    by_cases hlt : i < l.length
    · refine z_ct (decide_eq_true (by omega)) ?_
      obtain ⟨id, g, j, ee, p1, p2, R⟩ := (V.ext e).at (List.getElem?_eq_getElem hlt)
      obtain ⟨g1, g2, g3, g4⟩ := REl.agg R
      have A : loadA h1 true 3 (.ptr id g j 0) = some (.agg ee) := by rw [p2]; exact g1
      have hm2 := szL_mem (sz := szEl) (List.getElem_mem hlt)
      have hm3 : szEl l[i] = szVs (l[i]).vs + 1 := rfl
      refine z_of (p1 .i64) ?_; refine z_of A ?_; refine z_cv ?_
      refine c37 (n := n) R o (by omega) (by omega) fun h2 e2 o2 => ?_
      have hst : badE (l.take (i + 1)) = badV (l[i]).vs := by
        have := any_take (p := fun e : Elm => badV e.vs) hlt
        unfold badE at hb ⊢
        rw [this, hb, Bool.false_or]
      cases hc : badV (l[i]).vs with
      | true =>
        refine z_cT ?_
        refine z_geq ?_
        have e' : decide ((0 : Int) ≤ (i : Int)) = true := decide_eq_true (by omega)
        rw [e']
        have := k h2 (ext_two e e2) o2
        have hB : badE l = true := by
          unfold badE
          rw [List.any_eq_true]
          exact ⟨l[i], List.getElem_mem hlt, hc⟩
        rw [hB] at this; exact this
      | false =>
        refine z_cF ?_
        refine z_of (inc64 (i := i) (by omega)) ?_
        exact ih (i + 1) h2 (by omega) (by omega) (ext_two e e2) o2 (by rw [hst, hc])
    · refine z_cf (decide_eq_false (by omega)) ?_
      rw [List.take_of_length_le (by omega)] at hb
      refine z_geq ?_
      have := k h1 e o
      rw [hb] at this; exact this
end
end Go.Proofs.Ytbamgdknkhhikaa
namespace Go.Proofs.Ytbamgdknkhhikaa
open Go.Ab
set_option linter.unusedSimpArgs false
set_option linter.unusedVariables false
def Kp (lo hi : Nat) (h h' : AHeap) : Prop := ∀ j o, lo ≤ j → j < hi → h.get j = some o → h'.get j = some o
theorem Kp.refl (lo hi : Nat) (h : AHeap) : Kp lo hi h h := fun _ _ _ _ e => e
theorem Kp.trans {lo hi : Nat} {a b c : AHeap} (p : Kp lo hi a b) (q : Kp lo hi b c) : Kp lo hi a c := fun j o l1 l2 e => q j o l1 l2 (p j o l1 l2 e)
theorem Kp.of_ext {lo hi : Nat} {h h' : AHeap} (e : Ext h h') : Kp lo hi h h' := fun j o _ _ g => e.2 j o g
theorem Kp.sub {lo hi lo' hi' : Nat} {h h' : AHeap} (p : Kp lo hi h h') (l1 : lo ≤ lo') (l2 : hi' ≤ hi) : Kp lo' hi' h h' := fun j o a b g => p j o (by omega) (by omega) g
theorem Kp.of_fr {lo hi : Nat} {h h' : AHeap} {X : Nat → Prop} (f : Fr X h h') (d : ∀ j, X j → ¬ (lo ≤ j ∧ j < hi)) : Kp lo hi h h' := fun j o a b g => f.keep j o (fun x => d j x ⟨a, b⟩) g
theorem Kp.of_but {lo hi id : Nat} {h h' : AHeap} (f : But id h h') (d : ¬ (lo ≤ id ∧ id < hi)) : Kp lo hi h h' := fun j o a b g => f.keep j o (fun e => d (by rw [← e]; exact ⟨a, b⟩)) g
def _root_.Go.Ab.Val.ls : Val → List Val
  | .mk _ _ _ _ l => l
def shape (x : Val) (lv : AV) : List AV :=
  match x with
  | .mk k b n t _ => [.int .i64 k, .bool b, .int .i64 n, .str t, lv]
def Ow : Nat → Nat → Nat → AHeap → AV → List Val → Prop
  | 0, _, _, _, v, l => v = .nilSlc ∧ l = []
  | k + 1, lo, hi, h, v, l => ∃ (es : List (List AV)) (reg : Nat → Nat × Nat), Own lo h 5 v es ∧ (∀ j, inRow v j → j < hi) ∧ es.length = l.length ∧
    (∀ i, i < es.length → lo ≤ (reg i).1 ∧ (reg i).2 ≤ hi ∧ ∀ j, inRow v j → ¬ ((reg i).1 ≤ j ∧ j < (reg i).2)) ∧
    (∀ i i', i < i' → i' < es.length → (reg i).2 ≤ (reg i').1) ∧
    ∀ (i : Nat) e x, es[i]? = some e → l[i]? = some x → ∃ lv, e = shape x lv ∧ lv.leaf = true ∧ Ow k (reg i).1 (reg i).2 h lv x.ls
theorem Own.kp {lo hi n : Nat} {h h' : AHeap} {v : AV} {es : List (List AV)} (O : Own lo h n v es) (hr : ∀ j, inRow v j → j < hi) (k : Kp lo hi h h') : Own lo h' n v es := by
  rcases O with O | ⟨id, r, w1, rfl, w3, w4⟩
  · exact .inl O
  · refine .inr ⟨id, r, w1, rfl, ?_, w4⟩
    rw [AHeap.row_some] at w3 ⊢
    exact k id _ w1 (hr id (inRow_slc.2 rfl)) w3
theorem Ow.kp : ∀ {k lo hi : Nat} {h h' : AHeap} {v : AV} {l : List Val}, Ow k lo hi h v l → Kp lo hi h h' → Ow k lo hi h' v l
  | 0, lo, hi, h, h', v, l, O, _ => O
  | k + 1, lo, hi, h, h', v, l, O, q => by
    obtain ⟨es, reg, a1, a2, a3, a4, a5, a6⟩ := O
    refine ⟨es, reg, Own.kp a1 a2 q, a2, a3, a4, a5, fun i e x he hx => ?_⟩
    obtain ⟨lv, b1, b2, b3⟩ := a6 i e x he hx
    have := a4 i (List.getElem?_eq_some_iff.1 he).1
    exact ⟨lv, b1, b2, b3.kp (q.sub this.1 this.2.1)⟩
theorem Own.low {lo lo' n : Nat} {h : AHeap} {v : AV} {es : List (List AV)} (O : Own lo h n v es) (e : lo' ≤ lo) : Own lo' h n v es := by
  rcases O with O | ⟨id, r, w1, w2⟩
  · exact .inl O
  · exact .inr ⟨id, r, Nat.le_trans e w1, w2⟩
theorem Ow.wide : ∀ {k lo hi lo' hi' : Nat} {h : AHeap} {v : AV} {l : List Val}, Ow k lo hi h v l → lo' ≤ lo → hi ≤ hi' → Ow k lo' hi' h v l
  | 0, lo, hi, lo', hi', h, v, l, O, _, _ => O
  | k + 1, lo, hi, lo', hi', h, v, l, O, e1, e2 => by
    obtain ⟨es, reg, a1, a2, a3, a4, a5, a6⟩ := O
    exact ⟨es, reg, Own.low a1 e1, fun j hj => Nat.lt_of_lt_of_le (a2 j hj) e2, a3, fun i hi => ⟨Nat.le_trans e1 (a4 i hi).1, Nat.le_trans (a4 i hi).2.1 e2, (a4 i hi).2.2⟩, a5, a6⟩
structure Gv (l : List Val) (h : AHeap) (lo hi : Nat) (v : AV) : Prop where
  rd : ∀ h', Kp lo hi h h' → VV h' v l
  ow : ∃ k, Ow k lo hi h v l
structure Gx (x : Val) (h : AHeap) (lo hi : Nat) (a : List AV) : Prop where
  rd : ∀ h', Kp lo hi h h' → RV h' a x
  ow : ∃ k lv, a = shape x lv ∧ lv.leaf = true ∧ Ow k lo hi h lv x.ls
theorem Gv.fr {l : List Val} {h h' : AHeap} {lo hi : Nat} {v : AV} (G : Gv l h lo hi v) (k : Kp lo hi h h') : Gv l h' lo hi v := ⟨fun h'' q => G.rd h'' (k.trans q), let ⟨n, O⟩ := G.ow; ⟨n, O.kp k⟩⟩
theorem Gx.fr {x : Val} {h h' : AHeap} {lo hi : Nat} {v : List AV} (G : Gx x h lo hi v) (k : Kp lo hi h h') : Gx x h' lo hi v := ⟨fun h'' q => G.rd h'' (k.trans q), let ⟨n, lv, e, f, O⟩ := G.ow; ⟨n, lv, e, f, O.kp k⟩⟩
theorem Gv.now {l : List Val} {h : AHeap} {lo hi : Nat} {v : AV} (G : Gv l h lo hi v) : VV h v l := G.rd h (Kp.refl _ _ _)
theorem Gx.now {x : Val} {h : AHeap} {lo hi : Nat} {v : List AV} (G : Gx x h lo hi v) : RV h v x := G.rd h (Kp.refl _ _ _)
theorem Gv.wide {l : List Val} {h : AHeap} {lo hi lo' hi' : Nat} {v : AV} (G : Gv l h lo hi v) (l1 : lo' ≤ lo) (l2 : hi ≤ hi') : Gv l h lo' hi' v := ⟨fun h' k => G.rd h' (k.sub l1 l2), let ⟨n, O⟩ := G.ow; ⟨n, O.wide l1 l2⟩⟩
theorem RV.of {h : AHeap} {k n : Int} {b : Bool} {t : Str} {l : List Val} {lv : AV} (V : VV h lv l) (r : (-9223372036854775808 ≤ n ∧ n ≤ 9223372036854775807) ∧ (-9223372036854775808 ≤ k ∧ k ≤ 9223372036854775807) ∧ ∀ x ∈ t, x < 256) : RV h [.int .i64 k, .bool b, .int .i64 n, .str t, lv] (.mk k b n t l) := by
  obtain ⟨es, h1, h2⟩ := V
  simp only [RV]
  exact ⟨lv, es, rfl, h1, RVs.of h2, r⟩
structure Cps (b : Nat) (h : AHeap) (out : AV) (es : List (List AV)) (l : List Val) : Prop where
  own : Own b h 5 out es
  row : ∀ j, inRow out j → j < h.sz
  len : es.length = l.length
  g : ∃ reg : Nat → Nat × Nat, (∀ i, i < es.length → b ≤ (reg i).1 ∧ (reg i).2 ≤ h.sz ∧ ∀ j, inRow out j → ¬ ((reg i).1 ≤ j ∧ j < (reg i).2)) ∧ (∀ i i', i < i' → i' < es.length → (reg i).2 ≤ (reg i').1) ∧ ∀ (i : Nat) (e : List AV) (x : Val), es[i]? = some e → l[i]? = some x → Gx x h (reg i).1 (reg i).2 e
theorem all2_of {α β : Type} {R : α → β → Prop} : ∀ {l : List α} {m : List β}, l.length = m.length → (∀ (i : Nat) a b, l[i]? = some a → m[i]? = some b → R a b) → All2 R l m
  | [], [], _, _ => .nil
  | [], _ :: _, h, _ => by simp at h
  | _ :: _, [], h, _ => by simp at h
  | a :: l, b :: m, h, k => .cons (k 0 a b rfl rfl) (all2_of (by simpa using h) fun i x y h1 h2 => k (i + 1) x y h1 h2)
theorem Ow.up : ∀ {k lo hi : Nat} {h : AHeap} {v : AV} {l : List Val}, Ow k lo hi h v l → Ow (k + 1) lo hi h v l
  | 0, lo, hi, h, v, l, ⟨e1, e2⟩ => by
    subst e1; subst e2
    exact ⟨[], fun _ => (0, 0), .inl ⟨rfl, rfl⟩, fun j i => absurd i inRow_nil, rfl, by simp, by simp, by simp⟩
  | k + 1, lo, hi, h, v, l, O => by
    obtain ⟨es, reg, a1, a2, a3, a4, a5, a6⟩ := O
    exact ⟨es, reg, a1, a2, a3, a4, a5, fun i e x he hx => let ⟨lv, b1, b2, b3⟩ := a6 i e x he hx; ⟨lv, b1, b2, b3.up⟩⟩
theorem all_max {P : Nat → Nat → Prop} (up : ∀ i k, P i k → P i (k + 1)) : ∀ n, (∀ i, i < n → ∃ k, P i k) → ∃ k, ∀ i, i < n → P i k
  | 0, _ => ⟨0, fun i h => by omega⟩
  | n + 1, h => by
    obtain ⟨k, hk⟩ := all_max up n fun i hi => h i (by omega)
    obtain ⟨k', hk'⟩ := h n (by omega)
    have more : ∀ d i q, P i q → P i (q + d) := fun d => by
      induction d with
      | zero => intro i q p; exact p
      | succ d ih => intro i q p; exact up _ _ (ih i q p)
    refine ⟨k + k', fun i hi => ?_⟩
    by_cases e : i = n
    · subst e; rw [Nat.add_comm]; exact more _ _ _ hk'
    · exact more _ _ _ (hk i (by omega))
theorem Cps.gv {b : Nat} {h : AHeap} {out : AV} {es : List (List AV)} {l : List Val} (C : Cps b h out es l) (o : h.Ok) (hb : b ≤ h.sz) : Gv l h b h.sz out := by
  obtain ⟨reg, r1, r2, r3⟩ := C.g
  refine ⟨fun h' k => ⟨es, ?_, all2_of C.len fun i e x h1 h2 => ?_⟩, ?_⟩
  · exact (Own.kp C.own C.row k).view
  · have := r1 i (List.getElem?_eq_some_iff.1 h1).1
    exact (r3 i e x h1 h2).rd h' (k.sub this.1 this.2.1)
  · obtain ⟨K, hK⟩ := all_max (P := fun i k => ∀ e x, es[i]? = some e → l[i]? = some x → ∃ lv, e = shape x lv ∧ lv.leaf = true ∧ Ow k (reg i).1 (reg i).2 h lv x.ls)
      (fun i k p e x he hx => let ⟨lv, b1, b2, b3⟩ := p e x he hx; ⟨lv, b1, b2, b3.up⟩) es.length (fun i hi => by
        obtain ⟨k, lv, e1, e2, e3⟩ := (r3 i _ _ (List.getElem?_eq_getElem hi) (List.getElem?_eq_getElem (by rw [← C.len]; exact hi))).ow
        refine ⟨k, fun e x he hx => ?_⟩
        rw [List.getElem?_eq_getElem hi] at he; cases he
        rw [List.getElem?_eq_getElem (by rw [← C.len]; exact hi)] at hx; cases hx
        exact ⟨lv, e1, e2, e3⟩)
    exact ⟨K + 1, es, reg, C.own, C.row, C.len, r1, r2, fun i e x he hx => hK i (List.getElem?_eq_some_iff.1 he).1 e x he hx⟩
section
variable {h : AHeap}
theorem c61 {n : Nat} {a : List AV} {x : Val} {K : Kont} (ho : h.Ok) (R : RV h a x)
    (hl : ∀ {h1 lv ll} {K' : Kont}, (∃ k b n t, x = .mk k b n t ll) → VV h1 lv ll → h1.Ok → (∀ h2 v, Ext h1 h2 → h2.Ok → v.leaf = true → AV.same v v = true → Gv ll h2 h1.sz h2.sz v → K' v h2 = true) → callN E n (.func 40) [lv] h1 K' = true)
    (kk : ∀ h2 a', Ext h h2 → h2.Ok → Gx x h2 h.sz h2.sz a' → K (.agg a') h2 = true) : callN E (n + 1) (.func 61) [.agg a] h K = true := by
  obtain ⟨g1, g2, g3, g4⟩ := R.agg
  obtain ⟨k, b, nn, t, ll⟩ := x
  obtain ⟨lv, rfl, VL, rr⟩ := R.cells
  apply d61
  unfold s61
  obtain ⟨h1, q1, V1, e1, o1, z1⟩ := box_v (n := 5) ho g2 (by decide) g3
  rw [g4] at V1
  refine z_p q1 ?_
  obtain ⟨h2, q2, V2, e2, o2, z2⟩ := alloc_v (z := [AV.int .i64 0, .bool false, .int .i64 0, .str [], .nilSlc]) o1 (by decide) rfl
  refine z_p q2 ?_
  have V1 := V1.ext e2
  have A4 : loadA h2 false 1 (.ptr h.sz 0 0 4) = some lv := V1.get rfl
  refine z_fadr ?_; refine z_of A4 ?_
  refine hl ⟨k, b, nn, t, rfl⟩ ((VL.ext e1).ext e2) o2 fun h3 v e3 o3 lf sm G => ?_
  obtain ⟨h4, w1, W, w3, o4, w5⟩ := (V1.ext e3).wr o3 (off := 4) (v := v) (show 4 < 5 by decide) lf
  refine z_fadr ?_
  refine z_u w1 ?_
  have W : Var h4 h.sz [.int .i64 k, .bool b, .int .i64 nn, .str t, v] := W
  have A : loadA h4 true 5 (.ptr h.sz 0 0 0) = some (.agg [.int .i64 k, .bool b, .int .i64 nn, .str t, v]) := W.all rfl
  refine z_of A ?_
  have V2 : Var h4 h1.sz [AV.int .i64 0, .bool false, .int .i64 0, .str [], .nilSlc] := w3.var (V2.ext e3) (by omega)
  obtain ⟨h5, x1, X, x3, o5, x5⟩ := V2.wrs o4 (n := 5) (v := .agg [.int .i64 k, .bool b, .int .i64 nn, .str t, v]) rfl rfl (by simp only [AV.cells, allLeaf, lf]; rfl)
  refine z_u x1 ?_
  have X : Var h5 h1.sz [.int .i64 k, .bool b, .int .i64 nn, .str t, v] := X
  refine res1 (X.all rfl) ?_
  have e15 : Ext h h5 := x3.ext (w3.ext (ext_two (ext_two e1 e2) e3) ho (Nat.le_refl _)) ho (by omega)
  have kq : Kp h2.sz h3.sz h3 h5 := fun j o j1 j2 g => x3.keep j o (by omega) (w3.keep j o (by omega) g)
  obtain ⟨q, OW⟩ := G.ow
  refine kk h5 _ e15 o5 ⟨fun h' kp => RV.of (G.rd h' (kq.trans (kp.sub (by omega) (by have := w5; have := x5; omega)))) rr, q, v, rfl, lf, (OW.kp kq).wide (by omega) (by have := w5; have := x5; omega)⟩
theorem c40 : ∀ (k n : Nat) {h : AHeap} {v : AV} {l : List Val} {K : Kont}, VV h v l → h.Ok → szVs l ≤ k → 2 * k + 2 ≤ n → k < 1000000000 → n < lim →
    (∀ h2 v', Ext h h2 → h2.Ok → v'.leaf = true → AV.same v' v' = true → Gv l h2 h.sz h2.sz v' → K v' h2 = true) → callN E (n + 1) (.func 40) [v] h K = true := by
  intro k
  induction k with
  | zero =>
    intro n h v l K V ho hk hn hB hL kk
    have : l = [] := by
      cases l with
      | nil => rfl
      | cons x t => have := szVs_len (x :: t); simp at this; omega
    subst this
    apply d40
    unfold s40
    obtain ⟨n, rfl⟩ : ∃ j, n = j + 1 := ⟨n - 1, by omega⟩
    refine z_of V.len ?_
    unfold l40_8 b40_8
    refine z_lss ?_
    exact kk h .nilSlc (Ext.refl _) ho rfl same_nslc ⟨fun h' _ => ⟨[], View.nil _ _, .nil⟩, 0, rfl, rfl⟩
  | succ k ih =>
    intro n hs v l K V ho hk hn hB hL kk
    have hlm : lim = 4611686018427387904 := rfl
    have hmo : most = 1099511627776 := rfl
    have hlen := szVs_len l
    apply d40
    unfold s40
    refine z_of V.len ?_
    suffices H : ∀ m i h out es, l.length - i < m → i ≤ l.length → Ext hs h → h.Ok → Cps hs.sz h out es (l.take i) → l40_8 (callN E n) n m out v (.int .i64 (l.length : Int)) (.int .i64 (i : Int)) h K = true from
      H n 0 hs .nilSlc [] (by omega) (Nat.zero_le _) (Ext.refl _) ho ⟨Own.nil _ _ _, fun j i => absurd i inRow_nil, rfl, fun _ => (0, 0), by simp, by simp, by simp⟩
    intro m
    induction m with
    | zero => intro i h out es hm; omega
    | succ m ihm =>
      intro i h out es hm hi e o C
      unfold l40_8 b40_8
      refine z_lss ?_
      by_cases hlt : i < l.length
      · refine z_ct (decide_eq_true (by omega)) ?_
        obtain ⟨id, g, j, ee, p1, p2, R⟩ := (V.ext e).at (List.getElem?_eq_getElem hlt)
        obtain ⟨g1, g2, g3, g4⟩ := R.agg
        have hel : ee.length = 5 := by rw [← g4]; exact g2
        have A : loadA h true 5 (.ptr id g j 0) = some (.agg ee) := by rw [p2]; exact g1
        have hm2 := szVs_mem (List.getElem_mem hlt)
        refine z_of (p1 .i64) ?_; refine z_of A ?_
        obtain ⟨h2, q2, V2, e2, o2, z2⟩ := alloc_v (z := [AV.int .i64 0, .bool false, .int .i64 0, .str [], .nilSlc]) o (by decide) rfl
        refine z_p q2 ?_
        obtain ⟨h3, w1, W, w3, o3, w5⟩ := V2.wrs o2 (n := 5) (v := .agg ee) g2 rfl g3
        refine z_u w1 ?_
        rw [g4] at W
        have A2 : loadA h3 true 5 (.ptr h.sz 0 0 0) = some (.agg ee) := W.all hel
        have e3 : Ext h h3 := w3.ext e2 o (Nat.le_refl _)
        refine z_of A2 ?_
        obtain ⟨n, rfl⟩ : ∃ j, n = j + 2 := ⟨n - 2, by omega⟩
        refine c61 (n := n + 1) o3 (R.ext e3) (fun {h1 lv ll K'} hx V1 o1 kk' => ?_) fun h4 a' e4 o4 Gx' => ?_
        · obtain ⟨k', b, nn, t, hx⟩ := hx
          have : szVs ll + 1 ≤ szVs l := by rw [hx] at hm2; simp only [szV] at hm2; omega
          exact ih n V1 o1 (by omega) (by omega) (by omega) (by omega) kk'
        · obtain ⟨f1, f2, f3, f4⟩ := Gx'.now.agg
          obtain ⟨w, h5, b1, b2, e5, o5, z5, _⟩ := bslice1_v (sz := 5) (z := [AV.int .i64 0, .bool false, .int .i64 0, .str [], .nilSlc]) (v := .agg a') o4 rfl (by decide) (by decide) rfl f2 f3
          rw [f4] at b2
          refine z_p b1 ?_
          have eh5 := ext_two (ext_two e3 e4) e5
          have e05 := ext_two e eh5
          have hEl : es.length = i := by rw [C.len, List.length_take]; omega
          obtain ⟨out', h6, a1, a2, a3, a4, a5, a6⟩ := own_app2 (bytes := 64) (C.own.ext eh5) (by decide) e05.1 o5 ho e05 (Nat.le_refl _) b2.src (by rw [hEl]; simp; omega) (by rw [hEl]; simp; omega)
          refine z_p a1 ?_
          refine z_of (inc64 (i := i) (by omega)) ?_
          have lowr : ∀ j, inRow out j → j < h.sz := fun j hj => own_lt (own_low C.own) o hj
          obtain ⟨reg, r1, r2, r3⟩ := C.g
          have s1 := e.1; have s2 := e3.1; have s3 := e4.1; have s4 := e5.1; have s5 := a5.sz; have s6 := eh5.1
          obtain ⟨rg, n1, n2⟩ : ∃ rg : Nat → Nat × Nat, (∀ q, q < i → rg q = reg q) ∧ rg i = (h3.sz, h4.sz) := ⟨fun q => if q < i then reg q else (h3.sz, h4.sz), fun q hq => if_pos hq, if_neg (Nat.lt_irrefl i)⟩
          have hl : (es ++ [a']).length = i + 1 := by simp [hEl]
          refine ihm (i + 1) h6 out' (es ++ [a']) (by omega) (by omega) a4 a3 ⟨a2, fun j hj => own_lt (own_low a2) a3 hj, by rw [hl, List.length_take]; omega, rg, fun q hq => ?_, fun q q' h1 h2 => ?_, fun i' e' x he hx => ?_⟩
          · by_cases hq' : q < i
            · rw [n1 q hq']
              obtain ⟨c1, c2, c3⟩ := r1 q (by omega)
              refine ⟨c1, by omega, fun j hj p => ?_⟩
              rcases a6 j hj with q' | q'
              · exact c3 j q' p
              · omega
            · have : q = i := by omega
              subst this
              rw [n2]
              refine ⟨by show hs.sz ≤ h3.sz; omega, by show h4.sz ≤ h6.sz; omega, fun j hj p => ?_⟩
              have p1 : h3.sz ≤ j := p.1
              have p2 : j < h4.sz := p.2
              rcases a6 j hj with q' | q'
              · have := lowr j q'; omega
              · omega
          · rw [n1 q (by omega)]
            by_cases hq' : q' < i
            · rw [n1 q' hq']; exact r2 q q' h1 (by omega)
            · have : q' = i := by omega
              subst this
              rw [n2]
              have := (r1 q (by omega)).2.1
              show (reg q).2 ≤ h3.sz
              omega
          by_cases hlt' : i' < i
          · rw [List.getElem?_append_left (by omega)] at he
            rw [List.getElem?_take_of_lt (by omega)] at hx
            rw [n1 i' hlt']
            exact (r3 i' e' x he (by rw [List.getElem?_take_of_lt hlt']; exact hx)).fr ((Kp.of_ext eh5).trans (Kp.of_fr a5 (r1 i' (by omega)).2.2))
          · have : i' = i := by
              have := (List.getElem?_eq_some_iff.1 he).1
              omega
            subst this
            rw [List.getElem?_append_right (by omega), hEl, Nat.sub_self] at he
            simp at he
            subst he
            rw [List.getElem?_take_of_lt (by omega), List.getElem?_eq_getElem hlt] at hx
            cases hx
            rw [n2]
            refine Gx'.fr ((Kp.of_ext e5).trans (Kp.of_fr a5 fun j hj q => ?_))
            have := lowr j hj; have := q.1; omega
      · refine z_cf (decide_eq_false (by omega)) ?_
        rw [List.take_of_length_le (by omega)] at C
        have V' := (C.own.view)
        exact kk h out e o V'.leaf V'.same (C.gv o e.1)
end
end Go.Proofs.Ytbamgdknkhhikaa
namespace Go.Proofs.Ytbamgdknkhhikaa
open Go.Ab
set_option linter.unusedSimpArgs false
set_option linter.unusedVariables false
structure Cp {α : Type} (n : Nat) (R : Rd α) (b : Nat) (h : AHeap) (out : AV) (es : List (List AV)) (l : List α) : Prop where
  own : Own b h n out es
  len : es.length = l.length
  g : ∀ (i : Nat) (e : List AV) (x : α), es[i]? = some e → l[i]? = some x → ∃ lo hi, b ≤ lo ∧ hi ≤ h.sz ∧ (∀ j, inRow out j → ¬ (lo ≤ j ∧ j < hi)) ∧ ∀ h', Kp lo hi h h' → R h' e x
section
variable {α : Type} {n b : Nat} {R : Rd α} {h h' : AHeap} {out : AV} {es : List (List AV)} {l : List α}
theorem Cp.nil : Cp n R b h .nilSlc [] ([] : List α) := ⟨Own.nil _ _ _, rfl, by simp⟩
theorem Cp.fr (C : Cp n R b h out es l) {X : Nat → Prop} (f : Fr X h h') (d : ∀ j, X j → ¬ b ≤ j) : Cp n R b h' out es l := by
  refine ⟨?_, C.len, fun i e x h1 h2 => ?_⟩
  · rcases C.own with q | ⟨id, r, w1, w2, w3, w⟩
    · exact .inl q
    · exact .inr ⟨id, r, w1, w2, f.row (fun x => d _ x w1) w3, w⟩
  · obtain ⟨lo, hi, q1, q2, q3, q4⟩ := C.g i e x h1 h2
    exact ⟨lo, hi, q1, Nat.le_trans q2 f.sz, q3, fun h'' k => q4 h'' ((Kp.of_fr f fun j x ⟨y, _⟩ => d j x (by omega)).trans k)⟩
theorem Cp.ext (C : Cp n R b h out es l) (e : Ext h h') : Cp n R b h' out es l := C.fr (Fr.of_ext (X := fun _ => False) e) fun _ x => x.elim
theorem Cp.read (C : Cp n R b h out es l) (o : h.Ok) (k : Kp b h.sz h h') : View h' n out es ∧ All2 (R h') es l := by
  refine ⟨?_, all2_of C.len fun i e x h1 h2 => ?_⟩
  · rcases C.own with ⟨rfl, rfl⟩ | ⟨id, r, w1, rfl, w3, w4, w5, w6, w7⟩
    · exact View.nil _ _
    · have : h'.row id = some r := by
        rw [AHeap.row_some] at w3 ⊢
        exact k id _ w1 (o.lt w3) w3
      exact (Own.view (.inr ⟨id, r, w1, rfl, this, w4, w5, w6, w7⟩))
  · obtain ⟨lo, hi, q1, q2, _, q4⟩ := C.g i e x h1 h2
    exact q4 h' (k.sub q1 q2)
theorem Cp.push {h0 h5 : AHeap} {w : AV} {a : List AV} {x : α} {bytes lo hi : Nat} (C : Cp n R b h out es l) (k0 : h0.Ok) (e0 : Ext h0 h5) (hb0 : h0.sz ≤ b) (hb : b ≤ h.sz) (o : h.Ok) (eh : Ext h h5) (o5 : h5.Ok) (l1 : h.sz ≤ lo) (l2 : hi ≤ h5.sz) (G : ∀ h', Kp lo hi h5 h' → R h' a x)
    (hn : 0 < n) (src : source h5 n w = some [a]) (r1 : (l.length + 1) * bytes ≤ most) (r2 : l.length + 1 ≤ most) :
    ∃ out' h6, appendA h5 n bytes out w = some (out', h6) ∧ Cp n R b h6 out' (es ++ [a]) (l ++ [x]) ∧ h6.Ok ∧ Ext h0 h6 ∧ Fr (inRow out) h5 h6 ∧ (∀ j, inRow out' j → inRow out j ∨ j = h5.sz) := by
  have s1 := eh.1
  obtain ⟨out', h6, a1, a2, a3, a4, a5, a6⟩ := own_app2 (bytes := bytes) (C.own.ext eh) hn (by omega) o5 k0 e0 hb0 src (by rw [C.len]; exact r1) (by rw [C.len]; exact r2)
  have s2 := a5.sz
  have lowr : ∀ j, inRow out j → j < h.sz := fun j hj => own_lt (own_low C.own) o hj
  refine ⟨out', h6, a1, ⟨a2, by simp [C.len], fun i e y he hy => ?_⟩, a3, a4, a5, a6⟩
  by_cases hlt : i < l.length
  · rw [List.getElem?_append_left (by rw [C.len]; exact hlt)] at he
    rw [List.getElem?_append_left hlt] at hy
    obtain ⟨lo', hi', c1, c2, c3, c4⟩ := C.g i e y he hy
    refine ⟨lo', hi', c1, by omega, fun j hj q => ?_, fun h' k => c4 h' (((Kp.of_ext eh).trans (Kp.of_fr a5 c3)).trans k)⟩
    rcases a6 j hj with q' | q'
    · exact c3 j q' q
    · omega
  · have hle : i < es.length + 1 := by have := (List.getElem?_eq_some_iff.1 he).1; simpa using this
    have : i = es.length := by rw [C.len] at hle ⊢; omega
    subst this
    rw [List.getElem?_append_right (Nat.le_refl _), Nat.sub_self] at he
    rw [C.len, List.getElem?_append_right (Nat.le_refl _), Nat.sub_self] at hy
    simp at he hy
    subst he; subst hy
    refine ⟨lo, hi, by omega, by omega, fun j hj q => ?_, fun h' k => G h' ((Kp.of_fr a5 fun j hj q => ?_).trans k)⟩
    · rcases a6 j hj with q' | q'
      · have := lowr j q'; omega
      · omega
    · have := lowr j hj; omega
end
theorem PV.len {h : AHeap} {v : AV} {l : List (Str × Val)} (H : PV h v l) : lenA h 1 v = some (.int .i64 (l.length : Int)) := by
  obtain ⟨es, h1, h2⟩ := H; rw [h1.len, h2.length]
theorem PV.at {h : AHeap} {v : AV} {l : List (Str × Val)} (V : PV h v l) {i : Nat} {x : Str × Val} (hi : l[i]? = some x) :
    ∃ id g j e, (∀ k, iadrA h 6 v (.int k (i : Int)) = some (.ptr id g j 0)) ∧ (∀ ag off m, loadA h ag m (.ptr id g j off) = partA ag off m e) ∧ RPr h e x := by
  obtain ⟨es, h1, h2⟩ := V
  obtain ⟨e, he, hr⟩ := h2.get hi
  obtain ⟨id, g, j, p1, p2⟩ := h1.at1 he
  exact ⟨id, g, j, e, p1, p2, hr⟩
theorem szPr_pos (p : Str × Val) : 1 ≤ szPr p := by unfold szPr; omega
theorem RV.len5 {h : AHeap} {a : List AV} {x : Val} (R : RV h a x) : a.length = 5 := by
  obtain ⟨g1, g2, g3, g4⟩ := R.agg; rw [← g4]; exact g2
theorem build6 {s : Str} {a : List AV} (h2 : (AV.agg a).cells.length = 5) (h3 : allLeaf (AV.agg a).cells = true) (h4 : (AV.agg a).cells = a) :
    buildV [AV.str [], .int .i64 0, .bool false, .int .i64 0, .str [], .nilSlc] [(0, 1, .str s), (1, 5, .agg a)] = some (.agg (.str s :: a)) := by
  rw [h4] at h2 h3
  have hd : List.drop 6 [AV.str s, .int .i64 0, .bool false, .int .i64 0, .str [], .nilSlc] = [] := rfl
  have c1 : (AV.str s).cells = [.str s] := rfl
  simp only [buildV, fillV, c1, h4, h2, h3, lay, List.length_cons, List.length_nil, allLeaf, AV.leaf, List.take_zero, List.nil_append, List.drop_succ_cons, List.drop_zero, List.cons_append, List.take_succ_cons, Nat.beq_refl, Bool.and_self, cond_true]
  simp [h2, h3]
  rfl
section
variable {h : AHeap}
def Gm (m : Mch) (h : AHeap) (lo hi : Nat) (a b : AV) : Prop := ∀ h', Kp lo hi h h' → EV h' a m.els ∧ PV h' b m.env
theorem Gm.fr {m : Mch} {h h' : AHeap} {lo hi : Nat} {a b : AV} (G : Gm m h lo hi a b) (k : Kp lo hi h h') : Gm m h' lo hi a b := fun h'' q => G h'' (k.trans q)
theorem Gm.now {m : Mch} {h : AHeap} {lo hi : Nat} {a b : AV} (G : Gm m h lo hi a b) : EV h a m.els ∧ PV h b m.env := G h (Kp.refl _ _ _)
variable {n : Nat} {K : Kont} {core : Int} {els env : AV} {m : Mch}
theorem c41 (ho : h.Ok) (VE : EV h els m.els) (VP : PV h env m.env) (hn : 2 * (szL szEl m.els + szL szPr m.env) + 6 ≤ n) (hB : szL szEl m.els + szL szPr m.env < 1000000000) (hL : n < lim - 5)
    (kk : ∀ h2 a b, Ext h h2 → h2.Ok → a.leaf = true → b.leaf = true → AV.same a a = true → AV.same b b = true → Gm m h2 h.sz h2.sz a b → K (.agg [.int .i64 core, a, b]) h2 = true) :
    callN E (n + 1) (.func 41) [.agg [.int .i64 core, els, env]] h K = true := by
  have hlm : lim = 4611686018427387904 := rfl
  have hmo : most = 1099511627776 := rfl
  have hle : m.els.length ≤ szL szEl m.els := szL_length szEl_pos _
  have hlp : m.env.length ≤ szL szPr m.env := szL_length szPr_pos _
  apply d41
  unfold s41
  obtain ⟨h1, q1, V1, e1, o1, z1⟩ := box_v (n := 3) (v := .agg [.int .i64 core, els, env]) ho rfl (by decide) (by simp only [AV.cells, allLeaf, VE.leaf, VP.leaf]; rfl)
  have V1 : Var h1 h.sz [.int .i64 core, els, env] := V1
  refine z_p q1 ?_
  obtain ⟨h2, q2, V2, e2, o2, z2⟩ := alloc_v (z := [AV.int .i64 0, .nilSlc, .nilSlc]) o1 (by decide) rfl
  refine z_p q2 ?_
  have V1 := V1.ext e2
  have A0 : loadA h2 false 1 (.ptr h.sz 0 0 0) = some (.int .i64 core) := V1.get rfl
  have b3 : buildV [AV.int IntKind.i64 0, AV.nilSlc, AV.nilSlc] [(0, 1, .int .i64 core)] = some (.agg [.int .i64 core, .nilSlc, .nilSlc]) := rfl
  refine z_fadr ?_; refine z_of A0 ?_; refine z_of b3 ?_
  obtain ⟨h3, q3, V3, e3, o3, z3⟩ := alloc_v (z := [AV.int .i64 0, .nilSlc, .nilSlc]) o2 (by decide) rfl
  refine z_p q3 ?_
  obtain ⟨h4, w1, W, w3, o4, w5⟩ := V3.wrs o3 (n := 3) (v := .agg [.int .i64 core, .nilSlc, .nilSlc]) rfl rfl rfl
  refine z_u w1 ?_
  have W : Var h4 h2.sz [.int .i64 core, .nilSlc, .nilSlc] := W
  have e02 := ext_two e1 e2
  have E4 : Ext h h4 := w3.ext (ext_two e02 e3) ho (by omega)
  have V1 : Var h4 h.sz [.int .i64 core, els, env] := w3.var (V1.ext e3) (by omega)
  have V2 : Var h4 h1.sz [AV.int .i64 0, .nilSlc, .nilSlc] := w3.var (V2.ext e3) (by omega)
  have A1 : loadA h4 false 1 (.ptr h.sz 0 0 1) = some els := V1.get rfl
  refine z_fadr ?_; refine z_of A1 ?_; refine z_of (VE.ext E4).len ?_
  have sz4 : h4.sz = h.sz + 3 := by omega
  have fin : ∀ g0 g a b ps, Ext h g → g.Ok → Var g h1.sz [AV.int .i64 0, .nilSlc, .nilSlc] → Var g h2.sz [.int .i64 core, a, b] → (∀ h', Kp h4.sz g0.sz g0 h' → EV h' a m.els) → Kp h4.sz g0.sz g0 g → h4.sz ≤ g0.sz → g0.sz ≤ g.sz → Cp 6 RPr g0.sz g b ps m.env → p41_40 (callN E n) n (.ptr h1.sz 0 0 0) (.ptr h2.sz 0 0 0) g K = true := by
    intro g0 g a b ps eg og U2 U3 CE kp l0 l1 CP
    unfold p41_40
    have A : loadA g true 3 (.ptr h2.sz 0 0 0) = some (.agg [.int .i64 core, a, b]) := U3.all rfl
    refine z_of A ?_
    have VA := CE g kp
    have VB := CP.own.view
    obtain ⟨g1, x1, X, x3, o5, x5⟩ := U2.wrs og (n := 3) (v := .agg [.int .i64 core, a, b]) rfl rfl (by simp only [AV.cells, allLeaf, VA.leaf, VB.leaf]; rfl)
    refine z_u x1 ?_
    have X : Var g1 h1.sz [.int .i64 core, a, b] := X
    refine res1 (X.all rfl) ?_
    refine kk g1 a b (x3.ext eg ho (by omega)) o5 VA.leaf VB.leaf VA.same VB.same fun h' k => ?_
    have k1 : Kp h4.sz g.sz g h' := fun j o j1 j2 q => k j o (by omega) (by omega) (x3.keep j o (by omega) q)
    obtain ⟨r3, r4⟩ := CP.read og (k1.sub l0 (Nat.le_refl _))
    exact ⟨CE h' (kp.trans (k1.sub (Nat.le_refl _) l1)), ps, r3, r4⟩
  have pairs : ∀ g a es, Ext h g → g.Ok → Var g h.sz [.int .i64 core, els, env] → Var g h1.sz [AV.int .i64 0, .nilSlc, .nilSlc] → Var g h2.sz [.int .i64 core, a, .nilSlc] → Cp 3 REl h4.sz g a es m.els → h4.sz ≤ g.sz → p41_23 (callN E n) n (.ptr h.sz 0 0 0) (.ptr h1.sz 0 0 0) (.ptr h2.sz 0 0 0) g K = true := by
    intro g0 a es eg og U1 U2 U3 CE hg
    unfold p41_23
    have A2 : loadA g0 false 1 (.ptr h.sz 0 0 2) = some env := U1.get rfl
    refine z_fadr ?_; refine z_of A2 ?_; refine z_of (VP.ext eg).len ?_
    have CE' : ∀ h', Kp h4.sz g0.sz g0 h' → EV h' a m.els := fun h' k => ⟨es, (CE.read og k).1, (CE.read og k).2⟩
    suffices H : ∀ mm i g b ps, m.env.length - i < mm → i ≤ m.env.length → Ext h g → g.Ok → g0.sz ≤ g.sz → Var g h1.sz [AV.int .i64 0, .nilSlc, .nilSlc] → Var g h2.sz [.int .i64 core, a, b] → Kp h4.sz g0.sz g0 g → Cp 6 RPr g0.sz g b ps (m.env.take i) →
        l41_27 (callN E n) n mm (.ptr h1.sz 0 0 0) (.ptr h2.sz 0 0 0) env (.int .i64 (m.env.length : Int)) (.int .i64 (i : Int)) g K = true from
      H n 0 g0 .nilSlc [] (by omega) (Nat.zero_le _) eg og (Nat.le_refl _) U2 U3 (Kp.refl _ _ _) Cp.nil
    intro mm
    induction mm with
    | zero => intro i g b ps hm; omega
    | succ mm ih =>
      intro i g b ps hm hi e o hgg U2 U3 kp C
      unfold l41_27 b41_27
      refine z_lss ?_
      by_cases hlt : i < m.env.length
      · refine z_ct (decide_eq_true (by omega)) ?_
        have hci := List.getElem?_eq_getElem hlt
        obtain ⟨id, gg, j, ee, p1, p2, c, rfl, R, hby⟩ := (VP.ext e).at hci
        have hmm := szL_mem (sz := szPr) (List.getElem_mem hlt)
        have hse : szPr m.env[i] = (m.env[i]).1.length + szV (m.env[i]).2 + 1 := rfl
        generalize hx : m.env[i] = x at *
        obtain ⟨s, ⟨vk, vb, vn, vt, vl⟩⟩ := x
        simp only [szV] at hse
        obtain ⟨lv, rfl, VL, rr⟩ := R.cells
        have A : loadA g true 6 (.ptr id gg j 0) = some (.agg [.str s, .int .i64 vk, .bool vb, .int .i64 vn, .str vt, lv]) := by rw [p2]; rfl
        refine z_of (p1 .i64) ?_; refine z_of A ?_
        obtain ⟨g2, q2, V2, e2, o2, z2⟩ := alloc_v (z := [AV.str [], .int .i64 0, .bool false, .int .i64 0, .str [], .nilSlc]) o (by decide) rfl
        refine z_p q2 ?_
        obtain ⟨g3, w1, W, w3, o3, w5⟩ := V2.wrs o2 (n := 6) (v := .agg [.str s, .int .i64 vk, .bool vb, .int .i64 vn, .str vt, lv]) rfl rfl (by simp only [AV.cells, allLeaf, VL.leaf]; rfl)
        refine z_u w1 ?_
        have W : Var g3 g.sz [.str s, .int .i64 vk, .bool vb, .int .i64 vn, .str vt, lv] := W
        have e3 : Ext g g3 := w3.ext e2 o (Nat.le_refl _)
        have B2 : ∀ {g'}, Ext g3 g' → loadA g' false 1 (.ptr h2.sz 0 0 2) = some b := fun q => (U3.ext (ext_two e3 q)).get rfl
        have B0 : ∀ {g'}, Ext g3 g' → loadA g' false 1 (.ptr g.sz 0 0 0) = some (.str s) := fun q => (W.ext q).get rfl
        have B1 : loadA g3 true 5 (.ptr g.sz 0 0 1) = some (.agg [.int .i64 vk, .bool vb, .int .i64 vn, .str vt, lv]) := by rw [W.load]; rfl
        refine z_fadr ?_; refine z_of (B2 (Ext.refl _)) ?_; refine z_fadr ?_; refine z_of (B0 (Ext.refl _)) ?_; refine z_fadr ?_; refine z_of B1 ?_
        obtain ⟨n, rfl⟩ : ∃ j, n = j + 2 := ⟨n - 2, by omega⟩
        refine c61 (n := n + 1) o3 (RV.ext e3 R) (fun {h1 lv ll K'} hx V1 o1 kk' => ?_) fun g4 a' e4 o4 G => ?_
        · obtain ⟨k', b, nn, t, hx⟩ := hx
          cases hx
          exact c40 (szVs vl) n V1 o1 (Nat.le_refl _) (by omega) (by omega) (by omega) kk'
        · obtain ⟨f1, f2, f3, f4⟩ := G.now.agg
          have sb := C.own.view.same
          refine z_same (B2 e4) sb ?_
          refine z_same (B0 e4) (same_str _) ?_
          refine z_of (build6 f2 f3 f4) ?_
          have hl6 : (AV.agg (AV.str s :: a')).cells = AV.str s :: a' := by
            have : AV.cells (.agg (.str s :: a')) = AV.cells (.str s) ++ AV.cells (.agg a') := rfl
            rw [this, f4]; rfl
          have hal : allLeaf (AV.str s :: a') = true := by rw [f4] at f3; simp only [allLeaf, AV.leaf, f3, cond_true]
          obtain ⟨w, g5, b1, b2, e5, o5, z5, _⟩ := bslice1_v (sz := 6) (z := [AV.str [], .int .i64 0, .bool false, .int .i64 0, .str [], .nilSlc]) (v := .agg (.str s :: a')) o4 rfl (by decide) (by decide) rfl (by rw [hl6, List.length_cons, RV.len5 G.now]) (by rw [hl6]; exact hal)
          rw [hl6] at b2
          refine z_p b1 ?_
          have eg5 := ext_two e3 (ext_two e4 e5)
          refine z_same (B2 (ext_two e4 e5)) sb ?_
          have s3 := e3.1; have s4 := e4.1; have s5 := e5.1
          have htl : (m.env.take i).length = i := by rw [List.length_take]; omega
          obtain ⟨b', g6, a1, a2, a3, a4, a5, a6⟩ := C.push (bytes := 80) (lo := g3.sz) (hi := g4.sz) (x := (s, Val.mk vk vb vn vt vl)) (a := .str s :: a') ho (ext_two e eg5) (by omega) hgg o eg5 o5 (by omega) (by omega) (fun h' k => ⟨a', rfl, G.rd h' ((Kp.of_ext e5).trans k), hby⟩) (by decide) b2.src (by rw [htl]; omega) (by rw [htl]; omega)
          refine z_p a1 ?_
          have rowb : ∀ j, inRow b j → g0.sz ≤ j := fun j hj => own_row C.own hj
          have U3' : Var g6 h2.sz [.int .i64 core, a, b] := a5.var (U3.ext eg5) fun q => by have := rowb _ q; omega
          have U2' : Var g6 h1.sz [AV.int .i64 0, .nilSlc, .nilSlc] := a5.var (U2.ext eg5) fun q => by have := rowb _ q; omega
          obtain ⟨g7, x1, X, x3, o7, x5⟩ := U3'.wr a3 (off := 2) (v := b') (show 2 < 3 by decide) (a2.own.view.leaf)
          refine z_fadr ?_
          refine z_u x1 ?_
          have X : Var g7 h2.sz [.int .i64 core, a, b'] := X
          refine z_of (inc64 (i := i) (by omega)) ?_
          have s6 := a5.sz
          refine ih (i + 1) g7 b' (ps ++ [.str s :: a']) (by omega) (by omega) (x3.ext a4 ho (by omega)) o7 (by omega) (x3.var U2' (by omega)) X ?_ ?_
          · exact ((kp.trans (Kp.of_ext eg5)).trans (Kp.of_fr a5 fun j hj q => by have := rowb j hj; omega)).trans (Kp.of_but x3 (by omega))
          · have ht : m.env.take (i + 1) = m.env.take i ++ [(s, Val.mk vk vb vn vt vl)] := by rw [List.take_succ_eq_append_getElem hlt, hx]
            rw [ht]
            exact a2.fr (Fr.of_but (X := fun j => j = h2.sz) rfl x3) fun j hj => by omega
      · refine z_cf (decide_eq_false (by omega)) ?_
        rw [List.take_of_length_le (by omega)] at C
        exact fin g0 g a b ps e o U2 U3 CE' kp hg hgg C
  suffices H : ∀ mm i g a es, m.els.length - i < mm → i ≤ m.els.length → Ext h g → g.Ok → h4.sz ≤ g.sz → Var g h.sz [.int .i64 core, els, env] → Var g h1.sz [AV.int .i64 0, .nilSlc, .nilSlc] → Var g h2.sz [.int .i64 core, a, .nilSlc] → Cp 3 REl h4.sz g a es (m.els.take i) →
      l41_8 (callN E n) n mm (.ptr h.sz 0 0 0) (.ptr h1.sz 0 0 0) (.ptr h2.sz 0 0 0) els (.int .i64 (m.els.length : Int)) (.int .i64 (i : Int)) g K = true from
    H n 0 h4 .nilSlc [] (by omega) (Nat.zero_le _) E4 o4 (Nat.le_refl _) V1 V2 W Cp.nil
  intro mm
  induction mm with
  | zero => intro i g a es hm; omega
  | succ mm ih =>
    intro i g a es hm hi e o hgg U1 U2 U3 C
    unfold l41_8 b41_8
    refine z_lss ?_
    by_cases hlt : i < m.els.length
    · refine z_ct (decide_eq_true (by omega)) ?_
      have hci := List.getElem?_eq_getElem hlt
      obtain ⟨id, gg, j, ee, p1, p2, vv, rfl, VV1, r1, r2⟩ := (VE.ext e).at hci
      have hmm := szL_mem (sz := szEl) (List.getElem_mem hlt)
      have hse : szEl m.els[i] = szVs (m.els[i]).vs + 1 := rfl
      generalize hx : m.els[i] = x at *
      obtain ⟨hd, st, vs⟩ := x
      have A : loadA g true 3 (.ptr id gg j 0) = some (.agg [.int .i64 hd, .int .i64 st, vv]) := by rw [p2]; rfl
      refine z_of (p1 .i64) ?_; refine z_of A ?_
      obtain ⟨g2, q2, V2, e2, o2, z2⟩ := alloc_v (z := [AV.int .i64 0, .int .i64 0, .nilSlc]) o (by decide) rfl
      refine z_p q2 ?_
      obtain ⟨g3, w1, W, w3, o3, w5⟩ := V2.wrs o2 (n := 3) (v := .agg [.int .i64 hd, .int .i64 st, vv]) rfl rfl (by simp only [AV.cells, allLeaf, VV1.leaf]; rfl)
      refine z_u w1 ?_
      have W : Var g3 g.sz [.int .i64 hd, .int .i64 st, vv] := W
      have e3 : Ext g g3 := w3.ext e2 o (Nat.le_refl _)
      have B2 : loadA g3 false 1 (.ptr g.sz 0 0 2) = some vv := W.get rfl
      refine z_fadr ?_; refine z_of B2 ?_
      obtain ⟨n, rfl⟩ : ∃ j, n = j + 1 := ⟨n - 1, by omega⟩
      refine c40 (szVs vs) n (VV1.ext e3) o3 (Nat.le_refl _) (by dsimp only at hse; omega) (by dsimp only at hse; omega) (by omega) fun g4 v' e4 o4 lf sm G => ?_
      obtain ⟨g5, x1, X, x3, o5, x5⟩ := (W.ext e4).wr o4 (off := 2) (v := v') (show 2 < 3 by decide) lf
      refine z_fadr ?_
      refine z_u x1 ?_
      have X : Var g5 g.sz [.int .i64 hd, .int .i64 st, v'] := X
      have eg5 : Ext g g5 := x3.ext (ext_two e3 e4) o (Nat.le_refl _)
      have B1 : loadA g5 false 1 (.ptr h2.sz 0 0 1) = some a := (U3.ext eg5).get rfl
      have B3 : loadA g5 true 3 (.ptr g.sz 0 0 0) = some (.agg [.int .i64 hd, .int .i64 st, v']) := X.all rfl
      refine z_fadr ?_; refine z_of B1 ?_; refine z_of B3 ?_
      obtain ⟨w, g6, b1, b2, e6, o6, z6, _⟩ := bslice1_v (sz := 3) (z := [AV.int .i64 0, .int .i64 0, .nilSlc]) (v := .agg [.int .i64 hd, .int .i64 st, v']) o5 rfl (by decide) (by decide) rfl rfl (by simp only [AV.cells, allLeaf, lf]; rfl)
      have b2 : View g6 3 w [[.int .i64 hd, .int .i64 st, v']] := b2
      refine z_p b1 ?_
      have eg6 := ext_two eg5 e6
      have s3 := e3.1; have s4 := e4.1; have s6 := e6.1
      have htl : (m.els.take i).length = i := by rw [List.length_take]; omega
      obtain ⟨a', g7, a1, a2, a3, a4, a5, a6⟩ := C.push (bytes := 40) (lo := g3.sz) (hi := g4.sz) (x := Elm.mk hd st vs) (a := [.int .i64 hd, .int .i64 st, v']) ho (ext_two e eg6) (by omega) hgg o eg6 o6 (by omega) (by omega) (fun h' k => ⟨v', rfl, G.rd h' (((Kp.of_but x3 (by omega)).trans (Kp.of_ext e6)).trans k), r1, r2⟩) (by decide) b2.src (by rw [htl]; omega) (by rw [htl]; omega)
      refine z_p a1 ?_
      have rowa : ∀ j, inRow a j → h4.sz ≤ j := fun j hj => own_row C.own hj
      have U3' : Var g7 h2.sz [.int .i64 core, a, .nilSlc] := a5.var (U3.ext eg6) fun q => by have := rowa _ q; omega
      have U2' : Var g7 h1.sz [AV.int .i64 0, .nilSlc, .nilSlc] := a5.var (U2.ext eg6) fun q => by have := rowa _ q; omega
      have U1' : Var g7 h.sz [.int .i64 core, els, env] := a5.var (U1.ext eg6) fun q => by have := rowa _ q; omega
      obtain ⟨g8, y1, Y, y3, o8, y5⟩ := U3'.wr a3 (off := 1) (v := a') (show 1 < 3 by decide) (a2.own.view.leaf)
      refine z_fadr ?_
      refine z_u y1 ?_
      have Y : Var g8 h2.sz [.int .i64 core, a', .nilSlc] := Y
      refine z_of (inc64 (i := i) (by omega)) ?_
      have s7 := a5.sz
      refine ih (i + 1) g8 a' (es ++ [[.int .i64 hd, .int .i64 st, v']]) (by omega) (by omega) (y3.ext a4 ho (by omega)) o8 (by omega) (y3.var U1' (by omega)) (y3.var U2' (by omega)) Y ?_
      have ht : m.els.take (i + 1) = m.els.take i ++ [Elm.mk hd st vs] := by rw [List.take_succ_eq_append_getElem hlt, hx]
      rw [ht]
      exact a2.fr (Fr.of_but (X := fun j => j = h2.sz) rfl y3) fun j hj => by omega
    · refine z_cf (decide_eq_false (by omega)) ?_
      rw [List.take_of_length_le (by omega)] at C
      exact pairs g a es e o U1 U2 U3 C hgg
end
end Go.Proofs.Ytbamgdknkhhikaa
namespace Go.Proofs.Ytbamgdknkhhikaa
open Go.Ab
set_option linter.unusedSimpArgs false
set_option linter.unusedVariables false
def byA (x : Int) (i : Nat) : Nat := (x.fdiv (2 ^ (8 * i)) % 256).toNat
def bigB (x : Int) : Nat → List Nat
  | 0 => []
  | w + 1 => byA x w :: bigB x w
theorem byA_lt (x : Int) (i : Nat) : byA x i < 256 := by unfold byA; omega
theorem bigB_len (x : Int) : ∀ w, (bigB x w).length = w
  | 0 => rfl
  | w + 1 => by simp [bigB, bigB_len x w]
theorem bigB_lt (x : Int) : ∀ w, ∀ b ∈ bigB x w, b < 256
  | 0, b, h => by cases h
  | w + 1, b, h => by
    rcases List.mem_cons.1 h with h | h
    · rw [h]; exact byA_lt x w
    · exact bigB_lt x w b h
theorem wrap8 (y : Int) : wrapA .u8 y = y % 256 := by
  rw [wrapA_eq]; simp [IntKind.wrap, IntKind.bits, IntKind.signed]
theorem conv8 (k : IntKind) (y : Int) : convA .u8 (.int k y) = some (.int .u8 ((y % 256).toNat : Int)) := by
  show some (AV.int .u8 (wrapA .u8 y)) = _
  rw [wrap8]; congr 2; omega
theorem mul8 (i : Nat) (h : i < 100) : binA .mul (.int .i64 8) (.int .i64 (i : Int)) = some (.int .i64 ((8 * i : Nat) : Int)) := by
  rw [binA_mul, wrap64 (by omega) (by omega)]; congr 2
theorem shr8 {k : IntKind} (hk : k.bits = 64) (x : Int) (i : Nat) (h : i < 8) : binA .shr (.int k x) (.int .i64 ((8 * i : Nat) : Int)) = some (.int k (x.fdiv (2 ^ (8 * i)))) := by
  simp only [binA, isShift, cond_true, shiftA]
  have : iltb ((8 * i : Nat) : Int) 0 = false := rfl
  rw [this, cond_false]
  simp only [hk]
  have : min (((8 * i : Nat) : Int).toNat) 64 = 8 * i := by omega
  rw [this]
structure App (b : Nat) (h0 h h' : AHeap) (v v' : AV) (acc new : List Nat) : Prop where
  own : Own b h' 1 v' (encB (acc ++ new))
  ok : h'.Ok
  ext : Ext h0 h'
  fr : Fr (inRow v) h h'
  rows : ∀ j, inRow v' j → inRow v j ∨ h.sz ≤ j
section
variable {b : Nat} {h0 h h1 h2 h3 : AHeap} {v v' v'' : AV} {acc new new' : List Nat}
theorem App.refl (O : Own b h 1 v (encB acc)) (o : h.Ok) (e : Ext h0 h) : App b h0 h h v v acc [] := ⟨by rw [List.append_nil]; exact O, o, e, Fr.refl _ _, fun j i => .inl i⟩
theorem App.trans (o : h.Ok) (p : App b h0 h h1 v v' acc new) (q : App b h0 h1 h2 v' v'' (acc ++ new) new') : App b h0 h h2 v v'' acc (new ++ new') :=
  ⟨by rw [← List.append_assoc]; exact q.own, q.ok, q.ext, fr_acc o p.fr q.fr fun j i => p.rows j i, fun j i => by
    have := p.fr.sz
    rcases q.rows j i with i | i
    · exact p.rows j i
    · exact .inr (by omega)⟩
theorem App.ahead (e : Ext h h1) (p : App b h0 h1 h2 v v' acc new) : App b h0 h h2 v v' acc new :=
  ⟨p.own, p.ok, p.ext, (Fr.of_ext e).trans p.fr, fun j i => by have := e.1; rcases p.rows j i with i | i; exact .inl i; exact .inr (by omega)⟩
theorem App.behind (p : App b h0 h h1 v v' acc new) (e : Ext h1 h2) (o : h2.Ok) : App b h0 h h2 v v' acc new :=
  ⟨p.own.ext e, o, ext_two p.ext e, p.fr.trans (Fr.of_ext e), p.rows⟩
theorem app_t (O : Own b h 1 v (encB acc)) (hb : b ≤ h.sz) (o : h.Ok) (k0 : h0.Ok) (e0 : Ext h0 h) (hb0 : h0.sz ≤ b) {x : AV} (hs : source h 1 x = some (encB new)) (h2 : acc.length + new.length ≤ most) :
    ∃ v' h', appendA h 1 1 v x = some (v', h') ∧ App b h0 h h' v v' acc new := by
  have e1 : (encB acc).length = acc.length := by simp [encB]
  have e2 : (encB new).length = new.length := by simp [encB]
  obtain ⟨v', h', a1, a2, a3, a4, a5, a6, a7⟩ := O.app (bytes := 1) (by decide) hb o k0 e0 hb0 hs (by omega) (by omega)
  refine ⟨v', h', a1, ⟨?_, a3, a4, ⟨a5, fun j o' nj g => a6 j o' g fun id g' s l c ex e q => nj ⟨g', s, l, c, ex, by rw [e, q]⟩⟩, fun j i => ?_⟩⟩
  · have : encB (acc ++ new) = encB acc ++ encB new := by simp [encB]
    rw [this]; exact a2
  · rcases app_row a1 i with q | q
    · exact .inl q
    · exact .inr (by omega)
theorem appb_t {e : Nat} (O : Own b h 1 v (encB acc)) (hb : b ≤ h.sz) (o : h.Ok) (k0 : h0.Ok) (e0 : Ext h0 h) (hb0 : h0.sz ≤ b) {x : AV} (hs : source h 1 x = some (encB new)) (h2 : acc.length + new.length ≤ most) :
    ∃ v' h', appbA h e v x = some (v', h') ∧ App b h0 h h' v v' acc new := by
  have e1 : (encB acc).length = acc.length := by simp [encB]
  have e2 : (encB new).length = new.length := by simp [encB]
  obtain ⟨v', h', a1, a2, a3, a4, a5, a6, a7, _⟩ := O.appb (e := e) hb o k0 e0 hb0 hs (by omega)
  refine ⟨v', h', a1, ⟨?_, a3, a4, ⟨a5, fun j o' nj g => a6 j o' g fun id g' s l c ex e q => nj ⟨g', s, l, c, ex, by rw [e, q]⟩⟩, fun j i => ?_⟩⟩
  · have : encB (acc ++ new) = encB acc ++ encB new := by simp [encB]
    rw [this]; exact a2
  · rcases app_row a1 i with q | q
    · exact .inl q
    · exact .inr (by omega)
theorem App.low (p : App b h0 h h1 v v' acc new) : b ≤ h1.sz ∨ v' = .nilSlc := by
  rcases p.own with ⟨q, _⟩ | ⟨id, r, w1, w2, w3, _⟩
  · exact .inr q
  · have := p.ok.lt (AHeap.row_some.1 w3); exact .inl (by omega)
theorem byte_t {e : Nat} {K : Kont} {c : Nat} (O : Own b h 1 v (encB acc)) (hb : b ≤ h.sz) (o : h.Ok) (k0 : h0.Ok) (e0 : Ext h0 h) (hb0 : h0.sz ≤ b) (hl : acc.length < 1000000000000)
    (kk : ∀ h' v', App b h0 h h' v v' acc [c] → K v' h' = true) :
    (optP (bsliceV h 1 1 [.int .u8 0] [(0, .int .u8 (c : Int))]) fun v5 h => optP (appbA h e v v5) fun v6 h => K v6 h) = true := by
  have hmo : most = 1099511627776 := rfl
  obtain ⟨w, h1, q1, V, e1, o1, z1, _⟩ := bslice1_v (sz := 1) (z := [AV.int .u8 0]) (v := .int .u8 (c : Int)) o rfl (by decide) (by decide) rfl rfl rfl
  refine z_p q1 ?_
  obtain ⟨v', h', a1, A⟩ := appb_t (e := e) (new := [c]) (O.ext e1) (by have := e1.1; omega) o1 k0 (ext_two e0 e1) hb0 V.src (by simp; omega)
  refine z_p a1 ?_
  exact kk h' v' (A.ahead e1)
end
section
variable {b : Nat} {h0 h : AHeap} {v : AV} {acc : List Nat} {K : Kont} {n : Nat} {k : IntKind}
theorem c89 {x : Int} {w : Nat} (hk : k.bits = 64) (hw : w ≤ 8) (O : Own b h 1 v (encB acc)) (hb : b ≤ h.sz) (o : h.Ok) (k0 : h0.Ok) (e0 : Ext h0 h) (hb0 : h0.sz ≤ b) (hl : acc.length < 900000000000) (hn : 9 ≤ n)
    (kk : ∀ h' v', App b h0 h h' v v' acc (bigB x w) → K v' h' = true) : callN E (n + 1) (.func 89) [v, .int k x, .int .i64 (w : Int)] h K = true := by
  apply d89
  unfold s89
  refine z_of (sub64 (a := (w : Int)) (b := 1) (by omega) (by omega)) ?_
  suffices H : ∀ w' m h1 v1 done, w' < m → w' ≤ 8 → App b h0 h h1 v v1 acc done → done.length ≤ 8 → done ++ bigB x w' = bigB x w → l89_6 (callN E n) n m v1 (.int k x) (.int .i64 ((w' : Int) - 1)) h1 K = true from
    H w n h v [] (by omega) hw (App.refl O o e0) (by simp) rfl
  intro w'
  induction w' with
  | zero =>
    intro m h1 v1 done hm _ A hd he
    obtain ⟨m, rfl⟩ : ∃ j, m = j + 1 := ⟨m - 1, by omega⟩
    unfold l89_6 b89_6
    refine z_geq ?_
    refine z_cf (by decide) ?_
    rw [show bigB x 0 = [] from rfl, List.append_nil] at he
    exact kk h1 v1 (he ▸ A)
  | succ w' ih =>
    intro m h1 v1 done hm hw8 A hd he
    obtain ⟨m, rfl⟩ : ∃ j, m = j + 1 := ⟨m - 1, by omega⟩
    unfold l89_6 b89_6
    have e1 : (((w' + 1 : Nat) : Int) - 1) = (w' : Int) := by omega
    rw [e1]
    refine z_geq ?_
    refine z_ct (decide_eq_true (by omega)) ?_
    refine z_of (mul8 w' (by omega)) ?_; refine z_of (shr8 hk x w' (by omega)) ?_; refine z_of (conv8 k (x.fdiv (2 ^ (8 * w')))) ?_
    have hb1 : b ≤ h1.sz := by have := A.fr.sz; omega
    refine byte_t (c := byA x w') A.own hb1 A.ok k0 A.ext hb0 (by simp; omega) fun h2 v2 A2 => ?_
    refine z_of (sub64 (a := (w' : Int)) (b := 1) (by omega) (by omega)) ?_
    have hle := congrArg List.length he
    rw [List.length_append, bigB_len, bigB_len] at hle
    refine ih m h2 v2 (done ++ [byA x w']) (by omega) (by omega) (A.trans o A2) (by simp; omega) ?_
    rw [List.append_assoc]; exact he
end
end Go.Proofs.Ytbamgdknkhhikaa
namespace Go.Proofs.Ytbamgdknkhhikaa
open Go.Ab
set_option linter.unusedSimpArgs false
set_option linter.unusedVariables false
mutual
def encV : Val → List Nat
  | .mk k b n t l => (k % 256).toNat :: (if k = 1 then [if b then 1 else 0] else if k = 2 ∨ k = 5 then bigB (wrapA .u64 n) 8 else if k = 3 then bigB (wrapA .u64 (t.length : Int)) 4 ++ t else if k = 4 then bigB (wrapA .u64 (l.length : Int)) 4 ++ encVs l else [])
def encVs : List Val → List Nat
  | [] => []
  | v :: l => encV v ++ encVs l
end
theorem encVs_app (l m : List Val) : encVs (l ++ m) = encVs l ++ encVs m := by
  induction l with
  | nil => rfl
  | cons x t ih => simp only [List.cons_append, encVs, ih, List.append_assoc]
theorem encVs_one (x : Val) : encVs [x] = encV x := by simp [encVs]
mutual
theorem encV_len : ∀ (x : Val), (encV x).length ≤ 13 * szV x
  | .mk k b n t l => by
    have h1 := bigB_len (wrapA .u64 n) 8
    have h2 := bigB_len (wrapA .u64 (t.length : Int)) 4
    have h3 := bigB_len (wrapA .u64 (l.length : Int)) 4
    have h4 := encVs_len l
    simp only [encV, szV, List.length_cons]
    split
    · simp; omega
    · split
      · omega
      · split
        · rw [List.length_append]; omega
        · split
          · rw [List.length_append]; omega
          · simp; omega
theorem encVs_len : ∀ (l : List Val), (encVs l).length ≤ 13 * szVs l
  | [] => by simp [encVs]
  | x :: l => by
    have h1 := encV_len x
    have h2 := encVs_len l
    simp only [encVs, szVs, List.length_append]; omega
end
theorem conv64 (n : Int) : convA .u64 (.int .i64 n) = some (.int .u64 (wrapA .u64 n)) := rfl
theorem src_str {h : AHeap} (s : Str) : source h 1 (.str s) = some (encB s) := rfl
theorem c88 {h : AHeap} {K : Kont} {n : Nat} {b : Bool} (k : K (.int .i64 (if b then 1 else 0)) h = true) : callN E (n + 1) (.func 88) [.bool b] h K = true := by
  apply d88
  unfold s88
  cases b
  · exact z_cF k
  · exact z_cT k
section
variable {b : Nat} {h0 h : AHeap} {v : AV} {acc : List Nat} {K : Kont}
theorem App.box {h1 : AHeap} {c : List AV} {id : Nat} {v' : AV} {new : List Nat} (A : App b h0 h h1 v v' acc new) (V : Var h id c) (hv : ∀ j, inRow v j → j ≠ id) : Var h1 id c := A.fr.var V fun q => hv _ q rfl
theorem c68 : ∀ (k n : Nat) {b : Nat} {h0 h : AHeap} {v : AV} {acc : List Nat} {a : List AV} {x : Val} {K : Kont}, RV h0 a x → Own b h 1 v (encB acc) → b ≤ h.sz → h.Ok → h0.Ok → Ext h0 h → h0.sz ≤ b → szV x ≤ k → acc.length + 13 * szV x < 800000000000 → k + 12 ≤ n → n < lim - 5 →
    (∀ h' v', App b h0 h h' v v' acc (encV x) → K v' h' = true) → callN E (n + 1) (.func 68) [v, .agg a] h K = true := by
  intro k
  induction k with
  | zero =>
    intro n b h0 h v acc a x K R O hb o k0 e0 hb0 hk
    cases x; simp only [szV] at hk; omega
  | succ k ih =>
    intro n b h0 h v acc a x K R O hb o k0 e0 hb0 hk hl hn hL kk
    have hlm : lim = 4611686018427387904 := rfl
    have hmo : most = 1099511627776 := rfl
    obtain ⟨g1, g2, g3, g4⟩ := R.agg
    obtain ⟨kd, bb, nn, t, l⟩ := x
    obtain ⟨lv, rfl, VL, rr⟩ := R.cells
    have hlen := szVs_len l
    have hel := encV_len (.mk kd bb nn t l)
    simp only [szV] at hk hel hl
    apply d68
    unfold s68
    obtain ⟨h1, q1, V1, e1, o1, z1⟩ := box_v (n := 5) o g2 (by decide) g3
    rw [g4] at V1
    refine z_p q1 ?_
    have A0 : loadA h1 false 1 (.ptr h.sz 0 0 0) = some (.int .i64 kd) := V1.get rfl
    refine z_fadr ?_; refine z_of A0 ?_; refine z_of (conv8 .i64 kd) ?_
    have hv1 : ∀ j, inRow v j → j ≠ h.sz := fun j hj => by have := own_lt (own_low O) o hj; omega
    refine byte_t (e := 5) (O.ext e1) (by omega) o1 k0 (ext_two e0 e1) hb0 (by omega) fun h2 v2 A2 => ?_
    have V2 := A2.box V1 hv1
    have A2h := A2.ahead e1
    have hb2 : b ≤ h2.sz := by have := A2.fr.sz; omega
    have hv2 : ∀ j, inRow v2 j → j ≠ h.sz := fun j hj => by
      rcases A2.rows j hj with q | q
      · exact hv1 j q
      · omega
    have al : (acc ++ [(kd % 256).toNat]).length = acc.length + 1 := by simp
    have B0 : loadA h2 false 1 (.ptr h.sz 0 0 0) = some (.int .i64 kd) := V2.get rfl
    refine z_fadr ?_; refine z_of B0 ?_; refine z_eql ?_
    have fin : ∀ new, encV (.mk kd bb nn t l) = (kd % 256).toNat :: new → ∀ h' v', App b h0 h2 h' v2 v' (acc ++ [(kd % 256).toNat]) new → K v' h' = true := fun new he h' v' A' => by
      refine kk h' v' ?_
      rw [he]
      exact A2h.trans o A'
    by_cases k1 : kd = 1
    · refine z_ct (decide_eq_true k1) ?_
      have B1 : loadA h2 false 1 (.ptr h.sz 0 0 1) = some (.bool bb) := V2.get rfl
      refine z_fadr ?_; refine z_of B1 ?_
      obtain ⟨n, rfl⟩ : ∃ j, n = j + 1 := ⟨n - 1, by omega⟩
      refine c88 ?_
      have hc : convA .u8 (.int .i64 (if bb then 1 else 0)) = some (.int .u8 ((if bb then 1 else 0 : Nat) : Int)) := by cases bb <;> rfl
      refine z_of hc ?_
      refine byte_t (e := 5) A2.own hb2 A2.ok k0 A2.ext hb0 (by rw [al]; omega) fun h3 v3 A3 => ?_
      exact fin _ (by simp only [encV, if_pos k1]) h3 v3 A3
    · refine z_cf (decide_eq_false k1) ?_
      have p18 : ∀ c : Bool, c = decide (kd = 2 ∨ kd = 5) → p68_18 (callN E n) n v2 (.ptr h.sz 0 0 0) (.int .i64 kd) (.bool c) h2 K = true := by
        intro c hc
        unfold p68_18
        by_cases k25 : kd = 2 ∨ kd = 5
        · rw [hc, decide_eq_true k25]
          refine z_cT ?_
          have B2 : loadA h2 false 1 (.ptr h.sz 0 0 2) = some (.int .i64 nn) := V2.get rfl
          refine z_fadr ?_; refine z_of B2 ?_; refine z_of (conv64 nn) ?_
          obtain ⟨n, rfl⟩ : ∃ j, n = j + 1 := ⟨n - 1, by omega⟩
          refine c89 (k := .u64) (w := 8) rfl (by omega) A2.own hb2 A2.ok k0 A2.ext hb0 (by rw [al]; omega) (by omega) fun h3 v3 A3 => ?_
          exact fin _ (by simp only [encV, if_neg k1, if_pos k25]) h3 v3 A3
        · rw [hc, decide_eq_false k25]
          refine z_cF ?_
          refine z_eql ?_
          by_cases k3 : kd = 3
          · refine z_ct (decide_eq_true k3) ?_
            have B3 : ∀ {g}, Var g h.sz [.int .i64 kd, .bool bb, .int .i64 nn, .str t, lv] → loadA g false 1 (.ptr h.sz 0 0 3) = some (.str t) := fun V => V.get rfl
            refine z_fadr ?_; refine z_of (B3 V2) ?_; refine z_slen ?_; refine z_of (conv64 (t.length : Int)) ?_; refine z_fadr ?_; refine z_of (B3 V2) ?_
            obtain ⟨n, rfl⟩ : ∃ j, n = j + 1 := ⟨n - 1, by omega⟩
            refine c89 (k := .u64) (w := 4) rfl (by omega) A2.own hb2 A2.ok k0 A2.ext hb0 (by rw [al]; omega) (by omega) fun h3 v3 A3 => ?_
            have V3 := A3.box V2 hv2
            refine z_same (B3 V3) (same_str _) ?_
            have b4 := bigB_len (wrapA .u64 (t.length : Int)) 4
            obtain ⟨v4, h4, a1, A4⟩ := app_t (new := t) A3.own (by have := A3.fr.sz; omega) A3.ok k0 A3.ext hb0 (src_str t) (by rw [List.length_append, al, b4]; omega)
            refine z_p a1 ?_
            exact fin _ (by simp only [encV, if_neg k1, if_neg k25, if_pos k3]) h4 v4 (A3.trans A2.ok A4)
          · refine z_cf (decide_eq_false k3) ?_
            refine z_eql ?_
            by_cases k4 : kd = 4
            · refine z_ct (decide_eq_true k4) ?_
              have B4 : ∀ {g}, Var g h.sz [.int .i64 kd, .bool bb, .int .i64 nn, .str t, lv] → loadA g false 1 (.ptr h.sz 0 0 4) = some lv := fun V => V.get rfl
              refine z_fadr ?_; refine z_of (B4 V2) ?_; refine z_of (VL.ext A2.ext).len ?_; refine z_of (conv64 (l.length : Int)) ?_
              obtain ⟨n, rfl⟩ : ∃ j, n = j + 1 := ⟨n - 1, by omega⟩
              refine c89 (k := .u64) (w := 4) rfl (by omega) A2.own hb2 A2.ok k0 A2.ext hb0 (by rw [al]; omega) (by omega) fun h3 v3 A3 => ?_
              have V3 := A3.box V2 hv2
              refine z_fadr ?_; refine z_of (B4 V3) ?_; refine z_of (VL.ext A3.ext).len ?_
              have b4 := bigB_len (wrapA .u64 (l.length : Int)) 4
              suffices H : ∀ m i g w done, l.length - i < m → i ≤ l.length → App b h0 h3 g v3 w (acc ++ [(kd % 256).toNat] ++ bigB (wrapA .u64 (l.length : Int)) 4) done → done = encVs (l.take i) → l68_32 (callN E (n + 1)) (n + 1) m w lv (.int .i64 (l.length : Int)) (.int .i64 (i : Int)) g K = true from
                H (n + 1) 0 h3 v3 [] (by omega) (Nat.zero_le _) (App.refl A3.own A3.ok A3.ext) rfl
              intro m
              induction m with
              | zero => intro i g w done hm; omega
              | succ m ihm =>
                intro i g w done hm hi A hd
                unfold l68_32 b68_32
                refine z_lss ?_
                by_cases hlt : i < l.length
                · refine z_ct (decide_eq_true (by omega)) ?_
                  obtain ⟨id, gg, j, ee, p1, p2, R2⟩ := VL.at (List.getElem?_eq_getElem hlt)
                  obtain ⟨id, gg, j, ee', p1, p2, R2'⟩ := (VL.ext A.ext).at (List.getElem?_eq_getElem hlt)
                  obtain ⟨f1, f2, f3, f4⟩ := R2'.agg
                  have B5 : loadA g true 5 (.ptr id gg j 0) = some (.agg ee') := by rw [p2]; exact f1
                  refine z_of (p1 .i64) ?_; refine z_of B5 ?_
                  obtain ⟨g2, x2, W2, y2, oo2, zz2⟩ := alloc_v (z := [AV.int .i64 0, .bool false, .int .i64 0, .str [], .nilSlc]) A.ok (by decide) rfl
                  refine z_p x2 ?_
                  obtain ⟨g3', w1, W, w3, o3, w5⟩ := W2.wrs oo2 (n := 5) (v := .agg ee') f2 rfl f3
                  refine z_u w1 ?_
                  rw [f4] at W
                  have ye : Ext g g3' := w3.ext y2 A.ok (Nat.le_refl _)
                  have B6 : loadA g3' true 5 (.ptr g.sz 0 0 0) = some (.agg ee') := W.all (RV.len5 R2')
                  refine z_of B6 ?_
                  have hm2 := szVs_mem (List.getElem_mem hlt)
                  have R0 : RV h0 ee' l[i] := by
                    obtain ⟨es, v1, v2⟩ := VL
                    obtain ⟨e0', he0, hr0⟩ := v2.get (List.getElem?_eq_getElem hlt)
                    obtain ⟨id', g', j', u⟩ := v1.atE he0
                    have u1 := (u g A.ext).1 .i64
                    have u2 := (u g A.ext).2 true 0 5
                    rw [p1 .i64] at u1
                    injection u1 with u1
                    rw [← u1] at u2
                    rw [B5] at u2
                    have : partA true 0 5 e0' = some (.agg e0') := (hr0.agg).1
                    rw [this] at u2
                    injection u2 with u2
                    injection u2 with u2
                    rw [u2]; exact hr0
                  have hdl : done.length ≤ 13 * szVs l := by
                    rw [hd]
                    refine Nat.le_trans (encVs_len _) (Nat.mul_le_mul_left 13 ?_)
                    rw [szVs_eq, szVs_eq]; exact szL_take l i
                  have hdl2 : done.length + 13 * szV l[i] ≤ 13 * szVs l := by
                    have h5 : encVs (l.take (i + 1)) = encVs (l.take i) ++ encV l[i] := by rw [List.take_succ_eq_append_getElem hlt, encVs_app, encVs_one]
                    have : szVs (l.take i) + szV l[i] ≤ szVs l := by
                      have h6 : szVs (l.take (i + 1)) ≤ szVs l := by rw [szVs_eq, szVs_eq]; exact szL_take l (i + 1)
                      have h7 : szVs (l.take (i + 1)) = szVs (l.take i) + szV l[i] := by
                        rw [List.take_succ_eq_append_getElem hlt]
                        have : ∀ (p q : List Val), szVs (p ++ q) = szVs p + szVs q := by
                          intro p q
                          induction p with
                          | nil => simp [szVs]
                          | cons y t ih => simp only [List.cons_append, szVs, ih]; omega
                        rw [this]; simp [szVs]
                      omega
                    have h8 := encVs_len (l.take i)
                    rw [hd]; omega
                  refine ih n R0 (A.own.ext ye) (by have := A.fr.sz; have := A3.fr.sz; have := ye.1; omega) o3 k0 (ext_two A.ext ye) hb0 (by omega) (by rw [List.length_append, List.length_append, al, b4]; omega) (by omega) (by omega) fun g4 w4 A4 => ?_
                  refine z_of (inc64 (i := i) (by omega)) ?_
                  refine ihm (i + 1) g4 w4 (done ++ encV l[i]) (by omega) (by omega) (A.trans A3.ok (A4.ahead ye)) ?_
                  rw [hd, List.take_succ_eq_append_getElem hlt, encVs_app, encVs_one]
                · refine z_cf (decide_eq_false (by omega)) ?_
                  rw [List.take_of_length_le (by omega)] at hd
                  refine fin (bigB (wrapA .u64 (l.length : Int)) 4 ++ encVs l) (by simp only [encV, if_neg k1, if_neg k25, if_neg k3, if_pos k4]) g w ?_
                  rw [← hd]
                  exact A3.trans A2.ok A
            · refine z_cf (decide_eq_false k4) ?_
              exact fin [] (by simp only [encV, if_neg k1, if_neg k25, if_neg k3, if_neg k4]) h2 v2 (App.refl A2.own A2.ok A2.ext)
      refine z_eql ?_
      by_cases k2 : kd = 2
      · rw [decide_eq_true k2]
        refine z_cT (p18 true ?_)
        rw [decide_eq_true (.inl k2)]
      · rw [decide_eq_false k2]
        refine z_cF ?_
        refine z_eql ?_
        refine p18 _ ?_
        congr 1; apply propext
        exact ⟨.inr, fun q => q.elim (fun q => absurd q k2) id⟩
end
end Go.Proofs.Ytbamgdknkhhikaa
namespace Go.Proofs.Ytbamgdknkhhikaa
open Go.Ab
set_option linter.unusedSimpArgs false
set_option linter.unusedVariables false
mutual
theorem encV_lt {h : AHeap} : ∀ {x : Val} {a : List AV}, RV h a x → ∀ c ∈ encV x, c < 256
  | .mk k b n t l, a, R, c, hc => by
    simp only [RV] at R
    obtain ⟨lv, es, rfl, _, hr, _, _, ht⟩ := R
    simp only [encV] at hc
    rcases List.mem_cons.1 hc with hc | hc
    · omega
    · split at hc
      · simp only [List.mem_singleton] at hc; cases b <;> simp at hc <;> omega
      · split at hc
        · exact bigB_lt _ _ c hc
        · split at hc
          · rcases List.mem_append.1 hc with hc | hc
            · exact bigB_lt _ _ c hc
            · exact ht c hc
          · split at hc
            · rcases List.mem_append.1 hc with hc | hc
              · exact bigB_lt _ _ c hc
              · exact encVs_lt hr c hc
            · cases hc
theorem encVs_lt {h : AHeap} : ∀ {l : List Val} {es : List (List AV)}, RVs h es l → ∀ c ∈ encVs l, c < 256
  | [], _, _, c, hc => by simp [encVs] at hc
  | x :: l, es, R, c, hc => by
    simp only [RVs] at R
    obtain ⟨e, r, rfl, h1, h2⟩ := R
    simp only [encVs] at hc
    rcases List.mem_append.1 hc with hc | hc
    · exact encV_lt h1 c hc
    · exact encVs_lt h2 c hc
end
def spX (x : Val) : List Nat := if ckV 30 x = true then encV x else []
def spV (l : List Val) : List Nat := (l.map spX).flatten
theorem spV_take {l : List Val} {i : Nat} (h : i < l.length) : spV (l.take (i + 1)) = spV (l.take i) ++ spX l[i] := by
  unfold spV
  rw [List.take_succ_eq_append_getElem h, List.map_append, List.flatten_append]; simp
theorem spX_len (x : Val) : (spX x).length ≤ 13 * szV x := by
  unfold spX
  split
  · exact encV_len x
  · simp
theorem spV_len : ∀ (l : List Val), (spV l).length ≤ 13 * szVs l
  | [] => by simp [spV]
  | x :: l => by
    have h1 := spX_len x
    have h2 := spV_len l
    have : spV (x :: l) = spX x ++ spV l := by simp [spV]
    rw [this, List.length_append]; simp only [szVs]; omega
theorem spV_take_len (l : List Val) (i : Nat) : (spV (l.take i)).length ≤ 13 * szVs l := Nat.le_trans (spV_len _) (Nat.mul_le_mul_left 13 (by rw [szVs_eq, szVs_eq]; exact szL_take l i))
theorem _root_.Go.Ab.VV.lt {h : AHeap} {v : AV} {l : List Val} (V : VV h v l) : ∀ x ∈ l, ∀ c ∈ spX x, c < 256 := by
  intro x hx c hc
  obtain ⟨i, hi, rfl⟩ := List.mem_iff_getElem.1 hx
  obtain ⟨id, g, j, e, _, _, R⟩ := V.at (List.getElem?_eq_getElem hi)
  unfold spX at hc
  split at hc
  · exact encV_lt R c hc
  · cases hc
theorem _root_.Go.Ab.VV.lts {h : AHeap} {v : AV} {l : List Val} (V : VV h v l) : ∀ c ∈ spV l, c < 256 := by
  intro c hc
  obtain ⟨s, hs, hc⟩ := List.mem_flatten.1 hc
  obtain ⟨x, hx, rfl⟩ := List.mem_map.1 hs
  exact V.lt x hx c hc
theorem b2s_own {b : Nat} {h : AHeap} {v : AV} {s : Str} (O : Own b h 1 v (encB s)) (hb : ∀ c ∈ s, c < 256) : b2sA h v = some (.str s) := by
  have hs := O.view.src
  rcases O with ⟨rfl, he⟩ | ⟨i, r, q1, rfl, _⟩
  · cases s with
    | nil => rfl
    | cons b s => simp [encB] at he
  · simp only [b2sA, hs, bytesOf_enc s hb]
section
variable {h : AHeap} {K : Kont} {n : Nat}
theorem c59 {a : List AV} {x : Val} (R : RV h a x) (ho : h.Ok) (hB : szV x < 10000000000) (hn : szV x + 42 ≤ n) (hL : n < lim - 9) (kk : ∀ h' e er, Ext h h' → h'.Ok → View h' 1 e (encB (spX x)) → K (.tup [e, er]) h' = true) : callN E (n + 3) (.func 59) [.agg a] h K = true := by
  obtain ⟨g1, g2, g3, g4⟩ := R.agg
  apply d59
  unfold s59
  obtain ⟨h1, q1, V1, e1, o1, z1⟩ := box_v (n := 5) ho g2 (by decide) g3
  rw [g4] at V1
  refine z_p q1 ?_
  have A : ∀ {g}, Ext h1 g → loadA g true 5 (.ptr h.sz 0 0 0) = some (.agg a) := fun e => (V1.ext e).all (RV.len5 R)
  refine z_of (A (Ext.refl _)) ?_
  refine c57 (n := n) (R.ext e1) o1 (by omega) (by omega) fun h2 e2 o2 => ?_
  unfold spX at kk
  cases hc : ckV 30 x with
  | false =>
    rw [hc] at kk
    refine z_notF ?_; refine z_cT ?_
    exact kk h2 .nilSlc _ (ext_two e1 e2) o2 (View.nil _ _)
  | true =>
    rw [hc] at kk
    refine z_notT ?_; refine z_cF ?_
    refine z_of (A e2) ?_
    refine c68 (szV x) (n + 1) (b := h2.sz) (h0 := h2) (acc := []) ((R.ext e1).ext e2) (Own.nil _ _ _) (Nat.le_refl _) o2 o2 (Ext.refl _) (Nat.le_refl _) (Nat.le_refl _) (by simp; omega) (by omega) (by omega) fun h3 v3 A3 => ?_
    exact kk h3 v3 _ (ext_two (ext_two e1 e2) A3.ext) A3.ok A3.own.view
theorem c38 {cls : Str} {v : AV} {l : List Val} (V : VV h v l) (ho : h.Ok) (hB : szVs l < 10000000000) (hn : szVs l + 42 ≤ n) (hL : n < lim - 9) (kk : ∀ h', Ext h h' → h'.Ok → K (.agg [.str cls, .str (spV l)]) h' = true) : callN E (n + 4) (.func 38) [.agg [.str cls, v]] h K = true := by
  have hlm : lim = 4611686018427387904 := rfl
  have hmo : most = 1099511627776 := rfl
  have hlen := szVs_len l
  apply d38
  unfold s38
  obtain ⟨h1, q1, V1, e1, o1, z1⟩ := box_v (n := 2) (v := .agg [.str cls, v]) ho rfl (by decide) (by simp only [AV.cells, allLeaf, V.leaf]; rfl)
  have V1 : Var h1 h.sz [.str cls, v] := V1
  refine z_p q1 ?_
  obtain ⟨h2, q2, V2, e2, o2, z2⟩ := alloc_v (z := [AV.str [], AV.str []]) o1 (by decide) rfl
  refine z_p q2 ?_
  have V1 := V1.ext e2
  have A1 : loadA h2 false 1 (.ptr h.sz 0 0 1) = some v := V1.get rfl
  have e02 := ext_two e1 e2
  refine z_fadr ?_; refine z_of A1 ?_; refine z_of (V.ext e02).len ?_
  suffices H : ∀ m i g w, l.length - i < m → i ≤ l.length → App h2.sz h2 h2 g .nilSlc w [] (spV (l.take i)) → l38_8 (callN E (n + 3)) (n + 3) m (.ptr h.sz 0 0 0) (.ptr h1.sz 0 0 0) w v (.int .i64 (l.length : Int)) (.int .i64 (i : Int)) g K = true from
    H (n + 3) 0 h2 .nilSlc (by omega) (Nat.zero_le _) (App.refl (Own.nil _ _ _) o2 (Ext.refl _))
  intro m
  induction m with
  | zero => intro i g w hm; omega
  | succ m ih =>
    intro i g w hm hi A
    unfold l38_8 b38_8
    refine z_lss ?_
    have e0g := ext_two e02 A.ext
    by_cases hlt : i < l.length
    · refine z_ct (decide_eq_true (by omega)) ?_
      obtain ⟨id, gg, j, ee, p1, p2, R⟩ := (V.ext e0g).at (List.getElem?_eq_getElem hlt)
      obtain ⟨g1, g2, g3, g4⟩ := R.agg
      have B : loadA g true 5 (.ptr id gg j 0) = some (.agg ee) := by rw [p2]; exact g1
      have hm2 := szVs_mem (List.getElem_mem hlt)
      refine z_of (p1 .i64) ?_; refine z_of B ?_
      obtain ⟨g2', x2, W2, y2, oo2, zz2⟩ := alloc_v (z := [AV.int .i64 0, .bool false, .int .i64 0, .str [], .nilSlc]) A.ok (by decide) rfl
      refine z_p x2 ?_
      obtain ⟨g3', w1, W, w3, o3, w5⟩ := W2.wrs oo2 (n := 5) (v := .agg ee) g2 rfl g3
      refine z_u w1 ?_
      rw [g4] at W
      have ye : Ext g g3' := w3.ext y2 A.ok (Nat.le_refl _)
      have B6 : loadA g3' true 5 (.ptr g.sz 0 0 0) = some (.agg ee) := W.all (RV.len5 R)
      refine z_of B6 ?_
      refine c59 (n := n) (R.ext ye) o3 (by omega) (by omega) (by omega) fun g4' e er e4 o4 VE => ?_
      refine z_ext0 ?_; refine z_ext1 ?_
      have e34 := ext_two ye e4
      have hl1 := spV_take_len l i
      have hl2 := spX_len l[i]
      obtain ⟨w', g5, a1, A5⟩ := appb_t (e := 5) (new := spX l[i]) (A.own.ext e34) (by have := A.fr.sz; have := e34.1; omega) o4 o2 (ext_two A.ext e34) (Nat.le_refl _) VE.src (by simp only [List.nil_append]; omega)
      refine z_p a1 ?_
      refine z_of (inc64 (i := i) (by omega)) ?_
      refine ih (i + 1) g5 w' (by omega) (by omega) ?_
      rw [spV_take hlt]
      exact A.trans o2 (A5.ahead e34)
    · refine z_cf (decide_eq_false (by omega)) ?_
      rw [List.take_of_length_le (by omega)] at A
      unfold p38_23
      have A0 : loadA g false 1 (.ptr h.sz 0 0 0) = some (.str cls) := (V1.ext A.ext).get rfl
      have AO := A.own
      rw [List.nil_append] at AO
      refine z_fadr ?_; refine z_of A0 ?_; refine z_of (b2s_own AO V.lts) ?_
      refine z_of (build2 rfl rfl) ?_
      obtain ⟨g1, w1, W, w3, o3, w5⟩ := (V2.ext A.ext).wrs A.ok (n := 2) (v := .agg [.str cls, .str (spV l)]) rfl rfl rfl
      refine z_u w1 ?_
      have W : Var g1 h1.sz [.str cls, .str (spV l)] := W
      refine res1 (W.all rfl) ?_
      exact kk g1 (w3.ext e0g ho (by omega)) o3
end
def kyE (e : Elm) : List Nat := bigB e.hd 8 ++ bigB e.st 8 ++ bigB (e.vs.length : Int) 8 ++ spV e.vs
def kyM (l : List Elm) : List Nat := (l.map kyE).flatten
structure KS (h0 : AHeap) (c0 : Nat) (g : AHeap) (w : AV) (acc : List Nat) : Prop where
  o : g.Ok
  e : Ext h0 g
  c : Var g c0 [w]
  own : Own (c0 + 1) g 1 w (encB acc)
structure KT (c0 : Nat) (g g' : AHeap) (w w' : AV) : Prop where
  fr : Fr (fun j => j = c0 ∨ inRow w j) g g'
  rows : ∀ j, inRow w' j → inRow w j ∨ g.sz ≤ j
section
variable {h0 g g1 g2 : AHeap} {c0 : Nat} {w w1 w2 : AV} {acc new : List Nat} {K : Kont} {n : Nat}
theorem KT.refl : KT c0 g g w w := ⟨Fr.refl _ _, fun _ i => .inl i⟩
theorem KT.trans (o : g.Ok) (p : KT c0 g g1 w w1) (q : KT c0 g1 g2 w1 w2) : KT c0 g g2 w w2 :=
  ⟨fr_acc o p.fr q.fr fun j hj => by
    rcases hj with hj | hj
    · exact .inl (.inl hj)
    · rcases p.rows j hj with i | i
      · exact .inl (.inr i)
      · exact .inr i, fun j i => by
    have := p.fr.sz
    rcases q.rows j i with i | i
    · exact p.rows j i
    · exact .inr (by omega)⟩
theorem KT.ahead (e : Ext g g1) (p : KT c0 g1 g2 w w1) : KT c0 g g2 w w1 :=
  ⟨(Fr.of_ext e).trans p.fr, fun j i => by have := e.1; rcases p.rows j i with i | i; exact .inl i; exact .inr (by omega)⟩
theorem KS.ext (S : KS h0 c0 g w acc) (e : Ext g g1) (o : g1.Ok) : KS h0 c0 g1 w acc := ⟨o, ext_two S.e e, S.c.ext e, S.own.ext e⟩
theorem KS.lt (S : KS h0 c0 g w acc) : c0 < g.sz := S.c.lt S.o
theorem KS.row (S : KS h0 c0 g w acc) {j : Nat} (i : inRow w j) : c0 < j ∧ j < g.sz := ⟨by have := own_row S.own i; omega, own_lt (own_low S.own) S.o i⟩
theorem KT.var (p : KT c0 g g1 w w1) (S : KS h0 c0 g w acc) {id : Nat} {c : List AV} (V : Var g id c) (n1 : id ≠ c0) (n2 : ¬ inRow w id) : Var g1 id c := p.fr.var V fun q => q.elim n1 n2
theorem KS.fresh (S : KS h0 c0 g w acc) : g.sz ≠ c0 ∧ ¬ inRow w g.sz := ⟨by have := S.lt; omega, fun q => by have := S.row q; omega⟩
theorem KT.keepn (p : KT c0 g g1 w w1) {id : Nat} (hid : id < g.sz) (n2 : ¬ inRow w id) : ¬ inRow w1 id := fun q => by
  rcases p.rows _ q with i | i
  · exact n2 i
  · omega
theorem ks_app {e : Nat} {x : AV} {K : AHeap → Bool} (k0 : h0.Ok) (hc : h0.sz ≤ c0) (S : KS h0 c0 g w acc) (hs : source g 1 x = some (encB new)) (hl : acc.length + new.length ≤ most)
    (kk : ∀ g' w', KS h0 c0 g' w' (acc ++ new) → KT c0 g g' w w' → K g' = true) :
    (optP (appbA g e w x) fun v7 h => optP (unit (storeA h 1 (.ptr c0 0 0 0) v7)) fun _ h => K h) = true := by
  have hlt := S.lt
  obtain ⟨w', g1, a1, A⟩ := appb_t (e := e) S.own (by omega) S.o k0 S.e (by omega) hs hl
  refine z_p a1 ?_
  have C := A.fr.var S.c (fun q => by have := S.row q; omega)
  obtain ⟨g2, w1, W, w3, o2, w5⟩ := C.wr A.ok (off := 0) (v := w') (show 0 < 1 by decide) A.own.view.leaf
  refine z_u w1 ?_
  have rows' : ∀ j, inRow w' j → c0 < j := fun j i => by
    rcases A.rows j i with q | q
    · exact (S.row q).1
    · omega
  refine kk g2 w' ⟨o2, w3.ext A.ext k0 hc, W, ?_⟩ ⟨?_, A.rows⟩
  · exact w3.own A.own (by omega)
  · exact (A.fr.mono fun j i => .inr i).trans (Fr.of_but (X := fun j => j = c0 ∨ inRow w j) (.inl rfl) w3)
theorem c69 {x : Int} (k0 : h0.Ok) (hc : h0.sz ≤ c0) (S : KS h0 c0 g w acc) (hl : acc.length + 8 < 900000000000) (hn : 9 ≤ n)
    (kk : ∀ g' w', KS h0 c0 g' w' (acc ++ bigB x 8) → KT c0 g g' w w' → K (.tup []) g' = true) : callN E (n + 1) (.func 69) [.int .i64 x, .ptr c0 0 0 0] g K = true := by
  have hmo : most = 1099511627776 := rfl
  apply d69
  unfold s69
  suffices H : ∀ q m g1 w1 done, q < m → q ≤ 8 → KS h0 c0 g1 w1 (acc ++ done) → KT c0 g g1 w w1 → done.length ≤ 8 → done ++ bigB x q = bigB x 8 → l69_3 (callN E n) n m (.int .i64 x) (.ptr c0 0 0 0) (.int .i64 ((q : Int) - 1)) g1 K = true from
    H 8 n g w [] (by omega) (Nat.le_refl _) (by rw [List.append_nil]; exact S) KT.refl (by simp) rfl
  intro q
  induction q with
  | zero =>
    intro m g1 w1 done hm _ S1 T1 hd he
    obtain ⟨m, rfl⟩ : ∃ j, m = j + 1 := ⟨m - 1, by omega⟩
    unfold l69_3 b69_3
    refine z_geq ?_
    refine z_cf (by decide) ?_
    rw [show bigB x 0 = [] from rfl, List.append_nil] at he
    exact kk g1 w1 (he ▸ S1) T1
  | succ q ih =>
    intro m g1 w1 done hm hq8 S1 T1 hd he
    obtain ⟨m, rfl⟩ : ∃ j, m = j + 1 := ⟨m - 1, by omega⟩
    unfold l69_3 b69_3
    have e1 : (((q + 1 : Nat) : Int) - 1) = (q : Int) := by omega
    rw [e1]
    refine z_geq ?_
    refine z_ct (decide_eq_true (by omega)) ?_
    have B : ∀ {g'}, Ext g1 g' → loadA g' false 1 (.ptr c0 0 0 0) = some w1 := fun e => (S1.c.ext e).get rfl
    refine z_of (B (Ext.refl _)) ?_; refine z_of (mul8 q (by omega)) ?_; refine z_of (shr8 (k := .i64) rfl x q (by omega)) ?_; refine z_of (conv8 .i64 (x.fdiv (2 ^ (8 * q)))) ?_
    have hby : ((x.fdiv (2 ^ (8 * q)) % 256).toNat) = byA x q := rfl
    rw [hby]
    obtain ⟨u, g2, q1, V, e2, o2, z2, _⟩ := bslice1_v (sz := 1) (z := [AV.int .u8 0]) (v := .int .u8 (byA x q : Int)) S1.o rfl (by decide) (by decide) rfl rfl rfl
    refine z_p q1 ?_
    refine z_same (B e2) S1.own.view.same ?_
    refine ks_app (new := [byA x q]) k0 hc (S1.ext e2 o2) V.src (by simp; omega) fun g3 w3 S3 T3 => ?_
    refine z_of (sub64 (a := (q : Int)) (b := 1) (by omega) (by omega)) ?_
    have hle := congrArg List.length he
    rw [List.length_append, bigB_len, bigB_len] at hle
    refine ih m g3 w3 (done ++ [byA x q]) (by omega) (by omega) (by rw [← List.append_assoc]; exact S3) (T1.trans S.o (T3.ahead e2)) (by simp; omega) ?_
    rw [List.append_assoc]; exact he
end
end Go.Proofs.Ytbamgdknkhhikaa
namespace Go.Proofs.Ytbamgdknkhhikaa
open Go.Ab
set_option linter.unusedSimpArgs false
set_option linter.unusedVariables false
theorem kyE_len (e : Elm) : (kyE e).length ≤ 24 * szEl e := by
  have h1 := spV_len e.vs
  unfold kyE szEl
  simp only [List.length_append, bigB_len]; omega
theorem kyM_len : ∀ (l : List Elm), (kyM l).length ≤ 24 * szL szEl l
  | [] => by simp [kyM]
  | x :: l => by
    have h1 := kyE_len x
    have h2 := kyM_len l
    have : kyM (x :: l) = kyE x ++ kyM l := by simp [kyM]
    rw [this, List.length_append]; simp only [szL]; omega
theorem kyM_take {l : List Elm} {i : Nat} (h : i < l.length) : kyM (l.take (i + 1)) = kyM (l.take i) ++ kyE l[i] := by
  unfold kyM
  rw [List.take_succ_eq_append_getElem h, List.map_append, List.flatten_append]; simp
theorem kyM_take_len (l : List Elm) (i : Nat) : (kyM (l.take i)).length ≤ 24 * szL szEl l := Nat.le_trans (kyM_len _) (Nat.mul_le_mul_left 24 (szL_take l i))
theorem EV.lt {h : AHeap} {v : AV} {l : List Elm} (V : EV h v l) : ∀ c ∈ kyM l, c < 256 := by
  intro c hc
  obtain ⟨s, hs, hc⟩ := List.mem_flatten.1 hc
  obtain ⟨x, hx, rfl⟩ := List.mem_map.1 hs
  obtain ⟨i, hi, rfl⟩ := List.mem_iff_getElem.1 hx
  obtain ⟨id, g, j, e, _, _, vv, _, V1, _⟩ := V.at (List.getElem?_eq_getElem hi)
  unfold kyE at hc
  rcases List.mem_append.1 hc with hc | hc
  · rcases List.mem_append.1 hc with hc | hc
    · rcases List.mem_append.1 hc with hc | hc <;> exact bigB_lt _ _ c hc
    · exact bigB_lt _ _ c hc
  · exact V1.lts c hc
section
variable {h : AHeap} {K : Kont} {n : Nat}
theorem c60 {v : AV} {l : List Elm} (V : EV h v l) (ho : h.Ok) (hB : szL szEl l < 10000000000) (hn : szL szEl l + 50 ≤ n) (hL : n < lim - 9) (kk : ∀ h', Ext h h' → h'.Ok → K (.str (kyM l)) h' = true) : callN E (n + 4) (.func 60) [v] h K = true := by
  have hlm : lim = 4611686018427387904 := rfl
  have hmo : most = 1099511627776 := rfl
  have hlen : l.length ≤ szL szEl l := szL_length szEl_pos l
  apply d60
  unfold s60
  obtain ⟨h1, q1, V1, e1, o1, z1⟩ := alloc_v (z := [AV.nilSlc]) ho (by decide) rfl
  refine z_p q1 ?_
  refine z_some ?_
  refine z_of (V.ext e1).len ?_
  suffices H : ∀ m i g w, l.length - i < m → i ≤ l.length → KS h h.sz g w (kyM (l.take i)) → l60_10 (callN E (n + 3)) (n + 3) m (.ptr h.sz 0 0 0) (.fn (.func 69) [] [.ptr h.sz 0 0 0]) v (.int .i64 (l.length : Int)) (.int .i64 (i : Int)) g K = true from
    H (n + 3) 0 h1 .nilSlc (by omega) (Nat.zero_le _) ⟨o1, e1, V1, Own.nil _ _ _⟩
  intro m
  induction m with
  | zero => intro i g w hm; omega
  | succ m ih =>
    intro i g w hm hi S
    unfold l60_10 b60_10
    refine z_lss ?_
    by_cases hlt : i < l.length
    · refine z_ct (decide_eq_true (by omega)) ?_
      unfold p60_17
      obtain ⟨id, gg, j, ee, p1, p2, vv, rfl, VV1, r1, r2⟩ := (V.ext S.e).at (List.getElem?_eq_getElem hlt)
      have hmm := szL_mem (sz := szEl) (List.getElem_mem hlt)
      have hse : szEl l[i] = szVs (l[i]).vs + 1 := rfl
      have hkl := kyM_take_len l i
      have hkt := kyM_take hlt
      generalize hx : l[i] = x at *
      obtain ⟨hd, st, vs⟩ := x
      dsimp only at VV1 hse
      have A : loadA g true 3 (.ptr id gg j 0) = some (.agg [.int .i64 hd, .int .i64 st, vv]) := by rw [p2]; rfl
      refine z_of (p1 .i64) ?_; refine z_of A ?_
      obtain ⟨g2, q2, V2, e2, o2, z2⟩ := alloc_v (z := [AV.int .i64 0, .int .i64 0, .nilSlc]) S.o (by decide) rfl
      refine z_p q2 ?_
      obtain ⟨g3, w1, W, w3, o3, w5⟩ := V2.wrs o2 (n := 3) (v := .agg [.int .i64 hd, .int .i64 st, vv]) rfl rfl (by simp only [AV.cells, allLeaf, VV1.leaf]; rfl)
      refine z_u w1 ?_
      have W : Var g3 g.sz [.int .i64 hd, .int .i64 st, vv] := W
      have e3 : Ext g g3 := w3.ext e2 S.o (Nat.le_refl _)
      have S3 := S.ext e3 o3
      obtain ⟨f1, f2⟩ := S.fresh
      have lt3 : g.sz < g3.sz := by omega
      have B0 : loadA g3 false 1 (.ptr g.sz 0 0 0) = some (.int .i64 hd) := W.get rfl
      refine z_fadr ?_; refine z_of B0 ?_; refine z_cv ?_
      refine c69 ho (Nat.le_refl _) S3 (by omega) (by omega) fun g4 w4 S4 T4 => ?_
      have W4 := T4.var S3 W f1 f2
      have n4 := T4.keepn lt3 f2
      have lt4 : g.sz < g4.sz := by have := T4.fr.sz; omega
      have B1 : loadA g4 false 1 (.ptr g.sz 0 0 1) = some (.int .i64 st) := W4.get rfl
      refine z_fadr ?_; refine z_of B1 ?_; refine z_cv ?_
      refine c69 ho (Nat.le_refl _) S4 (by rw [List.length_append, bigB_len]; omega) (by omega) fun g5 w5' S5 T5 => ?_
      have W5 := T5.var S4 W4 f1 n4
      have n5 := T5.keepn lt4 n4
      have lt5 : g.sz < g5.sz := by have := T5.fr.sz; omega
      have B2 : ∀ {g'}, Var g' g.sz [.int .i64 hd, .int .i64 st, vv] → loadA g' false 1 (.ptr g.sz 0 0 2) = some vv := fun V => V.get rfl
      have VVh : ∀ {g'}, Ext h g' → VV g' vv vs := fun e => by
        obtain ⟨es0, y1, y2⟩ := V
        obtain ⟨e0', he0, vv0, hr0, V0, _⟩ := y2.get (show l[i]? = some (Elm.mk hd st vs) by rw [List.getElem?_eq_getElem hlt, hx])
        obtain ⟨id', g', j', u⟩ := y1.atE he0
        have u1 := (u g S.e).1 .i64
        have u2 := (u g S.e).2 true 0 3
        rw [p1 .i64] at u1
        injection u1 with u1
        rw [← u1, A, hr0] at u2
        have : partA true 0 3 [AV.int .i64 hd, .int .i64 st, vv0] = some (.agg [.int .i64 hd, .int .i64 st, vv0]) := rfl
        rw [show (Elm.mk hd st vs).hd = hd from rfl, show (Elm.mk hd st vs).st = st from rfl, this] at u2
        cases u2
        exact V0.ext e
      refine z_fadr ?_; refine z_of (B2 W5) ?_; refine z_of (VVh S5.e).len ?_; refine z_cv ?_
      refine c69 ho (Nat.le_refl _) S5 (by rw [List.length_append, List.length_append, bigB_len, bigB_len]; omega) (by omega) fun g6 w6 S6 T6 => ?_
      have W6 := T6.var S5 W5 f1 n5
      refine z_fadr ?_; refine z_of (B2 W6) ?_; refine z_of (VVh S6.e).len ?_
      have hvl := szVs_len vs
      suffices H2 : ∀ m2 i2 g' w', vs.length - i2 < m2 → i2 ≤ vs.length → KS h h.sz g' w' (kyM (l.take i) ++ (bigB hd 8 ++ bigB st 8 ++ bigB (vs.length : Int) 8 ++ spV (vs.take i2))) → l60_30 (callN E (n + 3)) (n + 3) (fun x3 x4 x12 x13 x14 h => l60_10 (callN E (n + 3)) (n + 3) m x3 x4 x12 x13 x14 h K) m2 (.ptr h.sz 0 0 0) (.fn (.func 69) [] [.ptr h.sz 0 0 0]) v (.int .i64 (l.length : Int)) (.int .i64 (i : Int)) vv (.int .i64 (vs.length : Int)) (.int .i64 (i2 : Int)) g' K = true from by
        refine H2 (n + 3) 0 g6 w6 (by omega) (Nat.zero_le _) ?_
        have : kyM (l.take i) ++ (bigB hd 8 ++ bigB st 8 ++ bigB (vs.length : Int) 8 ++ spV (vs.take 0)) = kyM (l.take i) ++ bigB hd 8 ++ bigB st 8 ++ bigB (vs.length : Int) 8 := by simp [spV]
        rw [this]; exact S6
      intro m2
      induction m2 with
      | zero => intro i2 g' w' hm2; omega
      | succ m2 ih2 =>
        intro i2 g' w' hm2 hi2 S'
        unfold l60_30 b60_30
        refine z_lss ?_
        by_cases hlt2 : i2 < vs.length
        · refine z_ct (decide_eq_true (by omega)) ?_
          obtain ⟨id', gg', j', ee', p1', p2', R'⟩ := (VVh S'.e).at (List.getElem?_eq_getElem hlt2)
          obtain ⟨k1, k2, k3, k4⟩ := R'.agg
          have B : loadA g' true 5 (.ptr id' gg' j' 0) = some (.agg ee') := by rw [p2']; exact k1
          have hm3 := szVs_mem (List.getElem_mem hlt2)
          refine z_of (p1' .i64) ?_; refine z_of B ?_
          obtain ⟨g7, x2, W7, y2, oo2, zz2⟩ := alloc_v (z := [AV.int .i64 0, .bool false, .int .i64 0, .str [], .nilSlc]) S'.o (by decide) rfl
          refine z_p x2 ?_
          obtain ⟨g8, u1, W8', u3, o8, u5⟩ := W7.wrs oo2 (n := 5) (v := .agg ee') k2 rfl k3
          refine z_u u1 ?_
          rw [k4] at W8'
          have ye : Ext g' g8 := u3.ext y2 S'.o (Nat.le_refl _)
          have B6 : loadA g8 true 5 (.ptr g'.sz 0 0 0) = some (.agg ee') := W8'.all (RV.len5 R')
          refine z_of B6 ?_
          refine c59 (n := n) (R'.ext ye) o8 (by omega) (by omega) (by omega) fun g9 e er e9 o9 VE => ?_
          have S9 := S'.ext (ext_two ye e9) o9
          have C9 : loadA g9 false 1 (.ptr h.sz 0 0 0) = some w' := S9.c.get rfl
          refine z_ext0 ?_; refine z_ext1 ?_; refine z_of C9 ?_
          have hl1 := spV_take_len vs i2
          have hl2 := spX_len vs[i2]
          refine ks_app (new := spX vs[i2]) ho (Nat.le_refl _) S9 VE.src (by simp only [List.length_append, bigB_len]; omega) fun g10 w10 S10 T10 => ?_
          refine z_of (inc64 (i := i2) (by omega)) ?_
          refine ih2 (i2 + 1) g10 w10 (by omega) (by omega) ?_
          rw [spV_take hlt2]
          have : kyM (l.take i) ++ (bigB hd 8 ++ bigB st 8 ++ bigB (vs.length : Int) 8 ++ (spV (vs.take i2) ++ spX vs[i2])) = kyM (l.take i) ++ (bigB hd 8 ++ bigB st 8 ++ bigB (vs.length : Int) 8 ++ spV (vs.take i2)) ++ spX vs[i2] := by simp only [List.append_assoc]
          rw [this]; exact S10
        · refine z_cf (decide_eq_false (by omega)) ?_
          rw [List.take_of_length_le (l := vs) (show vs.length ≤ i2 by omega)] at S'
          unfold p60_45
          refine z_of (inc64 (i := i) (by omega)) ?_
          refine ih (i + 1) g' w' (by omega) (by omega) ?_
          rw [hkt]; exact S'
    · refine z_cf (decide_eq_false (by omega)) ?_
      rw [List.take_of_length_le (by omega)] at S
      unfold p60_46
      have C9 : loadA g false 1 (.ptr h.sz 0 0 0) = some w := S.c.get rfl
      refine z_of C9 ?_; refine z_of (b2s_own S.own V.lt) ?_
      exact kk g S.e S.o
theorem c39 {core : Int} {env v : AV} {l : List Elm} (V : EV h v l) (lf : env.leaf = true) (ho : h.Ok) (hB : szL szEl l < 10000000000) (hn : szL szEl l + 50 ≤ n) (hL : n < lim - 9) (kk : ∀ h', Ext h h' → h'.Ok → K (.str (kyM l)) h' = true) : callN E (n + 5) (.func 39) [.agg [.int .i64 core, v, env]] h K = true := by
  apply d39
  unfold s39
  obtain ⟨h1, q1, V1, e1, o1, z1⟩ := box_v (n := 3) (v := .agg [.int .i64 core, v, env]) ho rfl (by decide) (by simp only [AV.cells, allLeaf, V.leaf, lf]; rfl)
  have V1 : Var h1 h.sz [.int .i64 core, v, env] := V1
  refine z_p q1 ?_
  have A0 : loadA h1 false 1 (.ptr h.sz 0 0 1) = some v := V1.get rfl
  refine z_fadr ?_; refine z_of A0 ?_
  exact c60 (V.ext e1) o1 hB hn hL fun h' e o => kk h' (ext_two e1 e) o
end
end Go.Proofs.Ytbamgdknkhhikaa
namespace Go.Proofs.Ytbamgdknkhhikaa
open Go.Ab
set_option linter.unusedSimpArgs false
set_option linter.unusedVariables false
def pairsT (T : TD) : List (SK × BK) := (T.cs.map fun p => p.2.bys.map fun q => (p.1, q.1)).flatten
theorem pairs_len (T : TD) : (pairsT T).length = sumG CD.bys T.cs := by
  unfold pairsT sumG
  rw [List.length_flatten, List.map_map]
  simp [Function.comp_def]
theorem pairs_mem {T : TD} (W : TW T) {k : SK} {r : BK} : (k, r) ∈ pairsT T ↔ hasB T k r := by
  unfold pairsT
  rw [List.mem_flatten]
  constructor
  · rintro ⟨l, hl, hm⟩
    obtain ⟨p, hp, rfl⟩ := List.mem_map.1 hl
    obtain ⟨q, hq, e⟩ := List.mem_map.1 hm
    simp only [Prod.mk.injEq] at e
    obtain ⟨rfl, rfl⟩ := e
    have h1 := lkG_of_mem (k := p.1) (u := p.2) W.ck hp
    exact ⟨p.2, h1, lkG_of_mem (W.bn _ _ h1) (show (q.1, ()) ∈ p.2.bys from hq)⟩
  · rintro ⟨x, h1, h2⟩
    exact ⟨_, List.mem_map.2 ⟨(k, x), lkG_mem h1, rfl⟩, List.mem_map.2 ⟨(r, ()), lkG_mem h2, rfl⟩⟩
theorem pairs_nodup {T : TD} (W : TW T) : (pairsT T).Nodup := by
  unfold pairsT
  rw [List.nodup_iff_pairwise_ne, List.pairwise_flatten]
  refine ⟨fun l hl => ?_, ?_⟩
  · obtain ⟨p, hp, rfl⟩ := List.mem_map.1 hl
    have hn := W.bn p.1 p.2 (lkG_of_mem W.ck hp)
    rw [List.nodup_iff_pairwise_ne, List.pairwise_map] at hn
    rw [List.pairwise_map]
    exact hn.imp fun {a b} q e => q (by simp only [Prod.mk.injEq, true_and] at e; exact e)
  · have hn := W.ck
    rw [List.nodup_iff_pairwise_ne, List.pairwise_map] at hn
    rw [List.pairwise_map]
    refine hn.imp fun {a b} q x hx y hy e => ?_
    obtain ⟨u, _, rfl⟩ := List.mem_map.1 hx
    obtain ⟨v, _, rfl⟩ := List.mem_map.1 hy
    simp only [Prod.mk.injEq] at e
    exact q e.1
open Classical in
theorem Less.count {T T' : TD} {D : SK → BK → Prop} (W : TW T) (L : Less T T' D) : T'.n = ((pairsT T).filter fun p => decide (¬ D p.1 p.2)).length := by
  rw [L.w.sum, ← pairs_len]
  refine List.Perm.length_eq ((List.perm_ext_iff_of_nodup (pairs_nodup L.w) ((pairs_nodup W).filter _)).2 fun p => ?_)
  obtain ⟨k, r⟩ := p
  rw [pairs_mem L.w, L.has, List.mem_filter, pairs_mem W]
  simp
theorem Less.all {T T' : TD} {D : SK → BK → Prop} (W : TW T) (L : Less T T' D) (hD : ∀ k r, hasB T k r → ¬ D k r) : T'.n = T.n := by
  rw [L.w.sum, W.sum, ← pairs_len, ← pairs_len]
  refine List.Perm.length_eq ((List.perm_ext_iff_of_nodup (pairs_nodup L.w) (pairs_nodup W)).2 fun p => ?_)
  obtain ⟨k, r⟩ := p
  rw [pairs_mem L.w, L.has, pairs_mem W]
  exact ⟨fun h => h.1, fun h => ⟨h, hD k r h⟩⟩
theorem Less.none {T T' : TD} {D : SK → BK → Prop} (W : TW T) (L : Less T T' D) (hD : ∀ k r, hasB T k r → D k r) : T'.n = 0 ∧ T'.cs = [] := by
  have hcs : T'.cs = [] := by
    cases e : T'.cs with
    | nil => rfl
    | cons p t =>
      have hp : (p.1, p.2) ∈ T'.cs := by rw [e]; exact List.mem_cons_self
      have h1 := lkG_of_mem L.w.ck hp
      obtain ⟨r, hr⟩ := bys_some (L.w.cne _ _ h1)
      have := (L.has p.1 r).1 ⟨p.2, h1, hr⟩
      exact absurd (hD _ _ this.1) this.2
  exact ⟨by rw [L.w.sum, hcs]; rfl, hcs⟩
def DC (B : Nat) (τ : Nat → Tag) (h : AHeap) (k : SK) (cls : Str) (vals : AV) : Prop :=
  ∃ l lo hi, k = (cls, spV l) ∧ badV l = false ∧ szVs l ≤ B ∧ vals.leaf = true ∧ Gv l h lo hi vals ∧ hi ≤ h.sz ∧ ∀ j, lo ≤ j → j < hi → τ j = .out
def DR (B : Nat) (τ : Nat → Tag) (h : AHeap) (r : BK) (els env : AV) : Prop :=
  ∃ m lo hi, r = (m.core, kyM m.els) ∧ badE m.els = false ∧ szL szEl m.els + szL szPr m.env ≤ B ∧ els.leaf = true ∧ env.leaf = true ∧ Gm m h lo hi els env ∧ hi ≤ h.sz ∧ ∀ j, lo ≤ j → j < hi → τ j = .out
section
variable {B : Nat} {τ τ' : Nat → Tag} {h h' : AHeap} {X : Nat → Prop}
theorem DC.fr {k : SK} {cls : Str} {vals : AV} (D : DC B τ h k cls vals) (f : Fr X h h') (hX : ∀ j, X j → τ j ≠ .out) (ht : ∀ j, j < h.sz → τ' j = τ j) : DC B τ' h' k cls vals := by
  obtain ⟨l, lo, hi, q1, q2, q3, q4, q5, q6, q7⟩ := D
  exact ⟨l, lo, hi, q1, q2, q3, q4, q5.fr (Kp.of_fr f fun j x ⟨a, b⟩ => hX j x (q7 j a b)), Nat.le_trans q6 f.sz, fun j a b => by rw [ht j (by omega)]; exact q7 j a b⟩
theorem DR.fr {r : BK} {els env : AV} (D : DR B τ h r els env) (f : Fr X h h') (hX : ∀ j, X j → τ j ≠ .out) (ht : ∀ j, j < h.sz → τ' j = τ j) : DR B τ' h' r els env := by
  obtain ⟨m, lo, hi, q1, q2, q3, q4, q5, q6, q7, q8⟩ := D
  exact ⟨m, lo, hi, q1, q2, q3, q4, q5, q6.fr (Kp.of_fr f fun j x ⟨a, b⟩ => hX j x (q8 j a b)), Nat.le_trans q7 f.sz, fun j a b => by rw [ht j (by omega)]; exact q8 j a b⟩
end
theorem own_ne {t : Tag} (h : t.own) : t ≠ .out := fun e => by rw [e] at h; exact h
structure DT (B : Nat) (τ : Nat → Tag) (h : AHeap) (T : TD) : Prop where
  c : ∀ k x, lkG T.cs k = some x → DC B τ h k x.cls x.vals
  r : ∀ r y, lkG T.rs r = some y → y.core = r.1 ∧ DR B τ h r y.els y.env
section
variable {B : Nat} {τ τ' : Nat → Tag} {h h' : AHeap} {T T' : TD}
theorem DT.fr (D : DT B τ h T) {X : Nat → Prop} (f : Fr X h h') (hX : ∀ j, X j → τ j ≠ .out) : DT B τ h' T :=
  ⟨fun k x hx => (D.c k x hx).fr f hX fun _ _ => rfl, fun r y hy => ⟨(D.r r y hy).1, (D.r r y hy).2.fr f hX fun _ _ => rfl⟩⟩
theorem DT.ext (D : DT B τ h T) (e : Ext h h') : DT B τ h' T := D.fr (Fr.of_ext (X := fun _ => False) e) fun _ x => x.elim
theorem DT.less (D : DT B τ h T) (W : TW T) {Q : SK → BK → Prop} (L : Less T T' Q) : DT B τ h T' := by
  refine ⟨fun k x hx => ?_, fun r y hy => ?_⟩
  · have hk : ((mp barC T.cs).map fun p => p.1).Nodup := by rw [mp_keys]; exact W.ck
    have q := lkG_of_mem hk (L.sc.subset (List.mem_map.2 ⟨(k, x), lkG_mem hx, rfl⟩))
    rw [lkG_mp] at q
    cases hx' : lkG T.cs k with
    | none => rw [hx'] at q; cases q
    | some x' =>
      rw [hx'] at q
      injection q with q
      have q : barC x' = barC x := q
      simp only [barC, Prod.mk.injEq] at q
      have := D.c k x' hx'
      rw [q.2.2.1, q.2.2.2.1] at this; exact this
  · have hk : ((mp barR T.rs).map fun p => p.1).Nodup := by rw [mp_keys]; exact W.rk
    have q := lkG_of_mem hk (L.sr.subset (List.mem_map.2 ⟨(r, y), lkG_mem hy, rfl⟩))
    rw [lkG_mp] at q
    cases hy' : lkG T.rs r with
    | none => rw [hy'] at q; cases q
    | some y' =>
      rw [hy'] at q
      injection q with q
      have q : barR y' = barR y := q
      simp only [barR, Prod.mk.injEq] at q
      obtain ⟨u1, u2⟩ := D.r r y' hy'
      rw [q.2.2.2.1, q.2.2.2.2.1] at u2
      rw [q.2.2.1] at u1
      exact ⟨u1, u2⟩
theorem DT.just (D : DT B τ h T) (f : Fr (W8 τ) h h') (ht : ∀ j, j < h.sz → τ' j = τ j) {k : SK} {r : BK} {x : CD} {y : RD}
    (hx : lkG T.cs k = none → DC B τ' h' k x.cls x.vals) (hy : lkG T.rs r = none → y.core = r.1 ∧ DR B τ' h' r y.els y.env) : DT B τ' h' (justT T k r x y) := by
  refine ⟨fun k' z hz => ?_, fun r' z hz => ?_⟩
  · have hz : lkG (putG CD.bys setC T.cs k r x) k' = some z := hz
    rw [putG_lk] at hz
    by_cases e : k' = k
    · rw [if_pos e] at hz
      subst e
      cases hk : lkG T.cs k' with
      | none =>
        rw [hk] at hz
        injection hz with hz
        subst hz
        exact hx hk
      | some x' =>
        rw [hk] at hz
        injection hz with hz
        subst hz
        exact (D.c k' x' hk).fr f (fun j w => own_ne w) ht
    · rw [if_neg e] at hz
      exact (D.c k' z hz).fr f (fun j w => own_ne w) ht
  · have hz : lkG (putG RD.ofs setR T.rs r k y) r' = some z := hz
    rw [putG_lk] at hz
    by_cases e : r' = r
    · rw [if_pos e] at hz
      subst e
      cases hk : lkG T.rs r' with
      | none =>
        rw [hk] at hz
        injection hz with hz
        subst hz
        exact hy hk
      | some y' =>
        rw [hk] at hz
        injection hz with hz
        subst hz
        exact ⟨(D.r r' y' hk).1, (D.r r' y' hk).2.fr f (fun j w => own_ne w) ht⟩
    · rw [if_neg e] at hz
      exact ⟨(D.r r' z hz).1, (D.r r' z hz).2.fr f (fun j w => own_ne w) ht⟩
end
section
variable {τ : Nat → Tag} {h : AHeap} {T : TD} {K : Kont} {n : Nat} {k : SK} {cls : Str} {vals : AV} {bad : Bool}
theorem c23 (O : TO τ h T) (kk : K (.int .i64 (T.n : Int)) h = true) : callN E (n + 1) (.func 23) [.ptr T.p 0 0 0] h K = true := by
  apply d23
  unfold s23
  refine z_nil ?_; refine z_fadr ?_; refine z_of O.l3 ?_
  exact kk
theorem c24 (O : TO τ h T) (hv : vals.leaf = true)
    (hs : Says h n 38 [.agg [.str cls, vals]] (sk k)) (hb : Says h n 35 [vals] (.bool bad))
    (k0 : ∀ h', Ext h h' → h'.Ok → lkG T.cs k = none ∨ bad = true → K (.int .i64 0) h' = true)
    (k1 : ∀ x h', Ext h h' → h'.Ok → lkG T.cs k = some x → bad = false → K (.int .i64 (x.bys.length : Int)) h' = true) :
    callN E (n + 1) (.func 24) [.ptr T.p 0 0 0, .agg [.str cls, vals]] h K = true := by
  apply d24
  unfold s24
  obtain ⟨h1, b1, V1, e1, o1, z1⟩ := box_v (n := 2) (v := .agg [.str cls, vals]) O.ok rfl (by decide) (by simp only [AV.cells, allLeaf, hv]; rfl)
  have V1 : Var h1 h.sz [.str cls, vals] := V1
  refine z_p b1 ?_
  have O1 := O.ext e1 o1
  have A1 : loadA h1 true 2 (.ptr h.sz 0 0 0) = some (.agg [.str cls, vals]) := V1.all rfl
  refine z_nil ?_; refine z_fadr ?_; refine z_of O1.l0 ?_; refine z_of A1 ?_
  refine hs h1 o1 e1 _ fun h2 e2 o2 => ?_
  have O2 := O1.ext e2 o2
  have V2 := V1.ext e2
  refine z_same O2.l0 (same_map _) ?_
  cases hx : lkG T.cs k with
  | none =>
    refine z_of (O2.lkc0 hx) ?_; refine z_eqn ?_; refine z_gtf ?_; refine z_gtf ?_; refine z_rtf ?_; refine z_kt ?_; refine z_cT ?_
    exact k0 h2 (ext_two e1 e2) o2 (.inl hx)
  | some x =>
    have V21 : loadA h2 false 1 (.ptr h.sz 0 0 1) = some vals := V2.get rfl
    refine z_of (O2.lkc hx) ?_; refine z_eqp ?_; refine z_gff ?_; refine z_fadr ?_; refine z_gff ?_; refine z_of V21 ?_; refine z_rff ?_
    refine hb h2 o2 (ext_two e1 e2) _ fun h3 e3 o3 => ?_
    have O3 := O2.ext e3 o3
    have E3 := ext_two (ext_two e1 e2) e3
    cases hbad : bad with
    | true =>
      refine z_kf ?_; refine z_cT ?_
      exact k0 h3 E3 o3 (.inr hbad)
    | false =>
      refine z_kf ?_; refine z_cF ?_; refine z_nil ?_; refine z_fadr ?_
      have C := O3.c k x (lkG_mem hx)
      refine z_of C.l3 ?_; refine z_of C.map.len ?_
      have := k1 x h3 E3 o3 hx hbad
      rw [← one_len] at this
      exact this
end
end Go.Proofs.Ytbamgdknkhhikaa
namespace Go.Proofs.Ytbamgdknkhhikaa
open Go.Ab
set_option linter.unusedSimpArgs false
set_option linter.unusedVariables false
structure CI (B : Nat) (h0 h : AHeap) (τ : Nat → Tag) (T : TD) (i : Nat) : Prop where
  o : TO τ h T
  w : TW T
  e : Ext h0 h
  t0 : ∀ j, j < h0.sz → τ j = .out
  d : DT B τ h T
  cn : T.n ≤ i
  ca : T.came ≤ 2 * i
section
variable {B : Nat} {h0 h h' : AHeap} {τ τ' : Nat → Tag} {T T' : TD} {i N : Nat} {K : Kont}
theorem CI.ext (I : CI B h0 h τ T i) (e : Ext h h') (o : h'.Ok) : CI B h0 h' τ T i := ⟨I.o.ext e o, I.w, ext_two I.e e, I.t0, I.d.ext e, I.cn, I.ca⟩
theorem CI.low (I : CI B h0 h τ T i) {j : Nat} (w : (τ j).own) : h0.sz ≤ j := by
  by_cases q : j < h0.sz
  · rw [I.t0 j q] at w; exact w.elim
  · omega
theorem CI.ext_fr (I : CI B h0 h τ T i) (k0 : h0.Ok) (F : Fr (W8 τ) h h') : Ext h0 h' := F.ext I.e k0 fun j w => I.low w
theorem CI.le (I : CI B h0 h τ T i) : T.cs.length ≤ i := Nat.le_trans (cs_le I.w) I.cn
theorem rs_le {T : TD} (W : TW T) : T.rs.length ≤ T.n := by
  rw [W.sum, ← pairs_len]
  have h1 : (T.rs.map fun p => p.1).length ≤ ((pairsT T).map fun p => p.2).length := by
    refine nodup_len W.rk fun r hr => ?_
    obtain ⟨p, hp, rfl⟩ := List.mem_map.1 hr
    have hy := lkG_of_mem (k := p.1) (u := p.2) W.rk hp
    have hne := W.rne _ _ hy
    obtain ⟨k, hk⟩ : ∃ k, lkG p.2.ofs k = some () := by
      cases e : p.2.ofs with
      | nil => rw [e] at hne; exact absurd rfl hne
      | cons q t => exact ⟨q.1, by simp [lkG]⟩
    exact List.mem_map.2 ⟨(k, p.1), (pairs_mem W).2 ((W.bij k p.1).2 ⟨p.2, hy, hk⟩), rfl⟩
  rw [List.length_map, List.length_map] at h1
  omega
structure Arg (B : Nat) (h0 : AHeap) (s : Stp) (vv ev nv : AV) : Prop where
  v : VV h0 vv s.vs
  e : EV h0 ev s.m.els
  n : PV h0 nv s.m.env
  b : szVs s.vs + szL szEl s.m.els + szL szPr s.m.env ≤ B
def GC (B : Nat) (h : AHeap) (lo hi : Nat) (p : SK × CD) (v : AV) : Prop := ∃ l, p.1 = (p.2.cls, spV l) ∧ badV l = false ∧ szVs l ≤ B ∧ v.leaf = true ∧ Gv l h lo hi v
theorem contents_ok (I : CI B h0 h τ T i) (hi : i < 1000) (hB : B < 100000000) (hN : 2 * B + 2000 ≤ N) (hL : N < 1000000000)
    (kk : ∀ h' out vs b, h.sz ≤ b → Ext h h' → h'.Ok → Outs (GC B) b h' out T.cs vs → K out h' = true) : callN E (N + 20) (.func 21) [.ptr T.p 0 0 0] h K = true := by
  have hlm : lim = 4611686018427387904 := rfl
  have hle := I.le
  refine c21 (n := N + 17) (G := GC B) I.o I.w (by have := I.ca; omega) (by omega) (by omega) (fun k x hx h1 o1 e1 K' kk' => ?_) (fun h1 h2 lo hi p v q kp => ?_) kk
  · obtain ⟨l, lo, hi', q1, q2, q3, q4, q5, q6, q7⟩ := I.d.c k x (lkG_of_mem I.w.ck hx)
    have V1 : VV h1 x.vals l := q5.rd h1 (Kp.of_ext e1)
    exact c40 (szVs l) (N + 18) V1 o1 (Nat.le_refl _) (by omega) (by omega) (by omega) fun h2 v' e2 o2 lf sm G => kk' h2 v' e2 o2 lf ⟨l, q1, q2, q3, lf, G⟩
  · obtain ⟨l, q1, q2, q3, q4, q5⟩ := q
    exact ⟨l, q1, q2, q3, q4, q5.fr kp⟩
end
end Go.Proofs.Ytbamgdknkhhikaa
namespace Go.Proofs.Ytbamgdknkhhikaa
open Go.Ab
set_option linter.unusedSimpArgs false
set_option linter.unusedVariables false
section
variable {h : AHeap}
theorem c34 {n : Nat} {a : List AV} {x : Val} {K : Kont} (ho : h.Ok) (R : RV h a x)
    (hl : ∀ {h1 lv ll} {K' : Kont}, (∃ k b n t, x = .mk k b n t ll) → VV h1 lv ll → h1.Ok → (∀ h2 v, Ext h1 h2 → h2.Ok → v.leaf = true → AV.same v v = true → Gv ll h2 h1.sz h2.sz v → K' v h2 = true) → callN E n (.func 9) [lv] h1 K' = true)
    (kk : ∀ h2 a', Ext h h2 → h2.Ok → Gx x h2 h.sz h2.sz a' → K (.agg a') h2 = true) : callN E (n + 1) (.func 34) [.agg a] h K = true := by
  obtain ⟨g1, g2, g3, g4⟩ := R.agg
  obtain ⟨k, b, nn, t, ll⟩ := x
  obtain ⟨lv, rfl, VL, rr⟩ := R.cells
  apply d34
  unfold s34
  obtain ⟨h1, q1, V1, e1, o1, z1⟩ := box_v (n := 5) ho g2 (by decide) g3
  rw [g4] at V1
  refine z_p q1 ?_
  obtain ⟨h2, q2, V2, e2, o2, z2⟩ := alloc_v (z := [AV.int .i64 0, .bool false, .int .i64 0, .str [], .nilSlc]) o1 (by decide) rfl
  refine z_p q2 ?_
  have V1 := V1.ext e2
  have A4 : loadA h2 false 1 (.ptr h.sz 0 0 4) = some lv := V1.get rfl
  refine z_fadr ?_; refine z_of A4 ?_
  refine hl ⟨k, b, nn, t, rfl⟩ ((VL.ext e1).ext e2) o2 fun h3 v e3 o3 lf sm G => ?_
  obtain ⟨h4, w1, W, w3, o4, w5⟩ := (V1.ext e3).wr o3 (off := 4) (v := v) (show 4 < 5 by decide) lf
  refine z_fadr ?_
  refine z_u w1 ?_
  have W : Var h4 h.sz [.int .i64 k, .bool b, .int .i64 nn, .str t, v] := W
  have A : loadA h4 true 5 (.ptr h.sz 0 0 0) = some (.agg [.int .i64 k, .bool b, .int .i64 nn, .str t, v]) := W.all rfl
  refine z_of A ?_
  have V2 : Var h4 h1.sz [AV.int .i64 0, .bool false, .int .i64 0, .str [], .nilSlc] := w3.var (V2.ext e3) (by omega)
  obtain ⟨h5, x1, X, x3, o5, x5⟩ := V2.wrs o4 (n := 5) (v := .agg [.int .i64 k, .bool b, .int .i64 nn, .str t, v]) rfl rfl (by simp only [AV.cells, allLeaf, lf]; rfl)
  refine z_u x1 ?_
  have X : Var h5 h1.sz [.int .i64 k, .bool b, .int .i64 nn, .str t, v] := X
  refine res1 (X.all rfl) ?_
  have e15 : Ext h h5 := x3.ext (w3.ext (ext_two (ext_two e1 e2) e3) ho (Nat.le_refl _)) ho (by omega)
  have kq : Kp h2.sz h3.sz h3 h5 := fun j o j1 j2 g => x3.keep j o (by omega) (w3.keep j o (by omega) g)
  obtain ⟨q, OW⟩ := G.ow
  refine kk h5 _ e15 o5 ⟨fun h' kp => RV.of (G.rd h' (kq.trans (kp.sub (by omega) (by have := w5; have := x5; omega)))) rr, q, v, rfl, lf, (OW.kp kq).wide (by omega) (by have := w5; have := x5; omega)⟩
theorem c9 : ∀ (k n : Nat) {h : AHeap} {v : AV} {l : List Val} {K : Kont}, VV h v l → h.Ok → szVs l ≤ k → 2 * k + 2 ≤ n → k < 1000000000 → n < lim →
    (∀ h2 v', Ext h h2 → h2.Ok → v'.leaf = true → AV.same v' v' = true → Gv l h2 h.sz h2.sz v' → K v' h2 = true) → callN E (n + 1) (.func 9) [v] h K = true := by
  intro k
  induction k with
  | zero =>
    intro n h v l K V ho hk hn hB hL kk
    have : l = [] := by
      cases l with
      | nil => rfl
      | cons x t => have := szVs_len (x :: t); simp at this; omega
    subst this
    apply d9
    unfold s9
    obtain ⟨n, rfl⟩ : ∃ j, n = j + 1 := ⟨n - 1, by omega⟩
    unfold l9_8 b9_8
    refine z_of V.len ?_; refine z_lss ?_
    exact kk h .nilSlc (Ext.refl _) ho rfl same_nslc ⟨fun h' _ => ⟨[], View.nil _ _, .nil⟩, 0, rfl, rfl⟩
  | succ k ih =>
    intro n hs v l K V ho hk hn hB hL kk
    have hlm : lim = 4611686018427387904 := rfl
    have hmo : most = 1099511627776 := rfl
    have hlen := szVs_len l
    apply d9
    unfold s9
    suffices H : ∀ m i h out es, l.length - i < m → i ≤ l.length → Ext hs h → h.Ok → Cps hs.sz h out es (l.take i) → l9_8 (callN E n) n m v out (.int .i64 (i : Int)) h K = true from
      H n 0 hs .nilSlc [] (by omega) (Nat.zero_le _) (Ext.refl _) ho ⟨Own.nil _ _ _, fun j i => absurd i inRow_nil, rfl, fun _ => (0, 0), by simp, by simp, by simp⟩
    intro m
    induction m with
    | zero => intro i h out es hm; omega
    | succ m ihm =>
      intro i h out es hm hi e o C
      unfold l9_8 b9_8
      refine z_of (V.ext e).len ?_; refine z_lss ?_
      by_cases hlt : i < l.length
      · refine z_ct (decide_eq_true (by omega)) ?_
        obtain ⟨id, g, j, ee, p1, p2, R⟩ := (V.ext e).at (List.getElem?_eq_getElem hlt)
        obtain ⟨g1, g2, g3, g4⟩ := R.agg
        have hel : ee.length = 5 := by rw [← g4]; exact g2
        have A : loadA h true 5 (.ptr id g j 0) = some (.agg ee) := by rw [p2]; exact g1
        have hm2 := szVs_mem (List.getElem_mem hlt)
        refine z_of (p1 .i64) ?_; refine z_of A ?_
        have e3 : Ext h h := Ext.refl _
        obtain ⟨n, rfl⟩ : ∃ j, n = j + 2 := ⟨n - 2, by omega⟩
        refine c34 (n := n + 1) o R (fun {h1 lv ll K'} hx V1 o1 kk' => ?_) fun h4 a' e4 o4 Gx' => ?_
        · obtain ⟨k', b, nn, t, hx⟩ := hx
          have : szVs ll + 1 ≤ szVs l := by rw [hx] at hm2; simp only [szV] at hm2; omega
          exact ih n V1 o1 (by omega) (by omega) (by omega) (by omega) kk'
        · obtain ⟨f1, f2, f3, f4⟩ := Gx'.now.agg
          obtain ⟨w, h5, b1, b2, e5, o5, z5, _⟩ := bslice1_v (sz := 5) (z := [AV.int .i64 0, .bool false, .int .i64 0, .str [], .nilSlc]) (v := .agg a') o4 rfl (by decide) (by decide) rfl f2 f3
          rw [f4] at b2
          refine z_p b1 ?_
          have eh5 := ext_two (ext_two e3 e4) e5
          have e05 := ext_two e eh5
          have hEl : es.length = i := by rw [C.len, List.length_take]; omega
          obtain ⟨out', h6, a1, a2, a3, a4, a5, a6⟩ := own_app2 (bytes := 64) (C.own.ext eh5) (by decide) e05.1 o5 ho e05 (Nat.le_refl _) b2.src (by rw [hEl]; simp; omega) (by rw [hEl]; simp; omega)
          refine z_p a1 ?_
          refine z_of (inc64 (i := i) (by omega)) ?_
          have lowr : ∀ j, inRow out j → j < h.sz := fun j hj => own_lt (own_low C.own) o hj
          obtain ⟨reg, r1, r2, r3⟩ := C.g
          have s1 := e.1; have s2 := e3.1; have s3 := e4.1; have s4 := e5.1; have s5 := a5.sz; have s6 := eh5.1
          obtain ⟨rg, n1, n2⟩ : ∃ rg : Nat → Nat × Nat, (∀ q, q < i → rg q = reg q) ∧ rg i = (h.sz, h4.sz) := ⟨fun q => if q < i then reg q else (h.sz, h4.sz), fun q hq => if_pos hq, if_neg (Nat.lt_irrefl i)⟩
          have hl : (es ++ [a']).length = i + 1 := by simp [hEl]
          refine ihm (i + 1) h6 out' (es ++ [a']) (by omega) (by omega) a4 a3 ⟨a2, fun j hj => own_lt (own_low a2) a3 hj, by rw [hl, List.length_take]; omega, rg, fun q hq => ?_, fun q q' h1 h2 => ?_, fun i' e' x he hx => ?_⟩
          · by_cases hq' : q < i
            · rw [n1 q hq']
              obtain ⟨c1, c2, c3⟩ := r1 q (by omega)
              refine ⟨c1, by omega, fun j hj p => ?_⟩
              rcases a6 j hj with q' | q'
              · exact c3 j q' p
              · omega
            · have : q = i := by omega
              subst this
              rw [n2]
              refine ⟨by show hs.sz ≤ h.sz; omega, by show h4.sz ≤ h6.sz; omega, fun j hj p => ?_⟩
              have p1 : h.sz ≤ j := p.1
              have p2 : j < h4.sz := p.2
              rcases a6 j hj with q' | q'
              · have := lowr j q'; omega
              · omega
          · rw [n1 q (by omega)]
            by_cases hq' : q' < i
            · rw [n1 q' hq']; exact r2 q q' h1 (by omega)
            · have : q' = i := by omega
              subst this
              rw [n2]
              have := (r1 q (by omega)).2.1
              show (reg q).2 ≤ h.sz
              omega
          by_cases hlt' : i' < i
          · rw [List.getElem?_append_left (by omega)] at he
            rw [List.getElem?_take_of_lt (by omega)] at hx
            rw [n1 i' hlt']
            exact (r3 i' e' x he (by rw [List.getElem?_take_of_lt hlt']; exact hx)).fr ((Kp.of_ext eh5).trans (Kp.of_fr a5 (r1 i' (by omega)).2.2))
          · have : i' = i := by
              have := (List.getElem?_eq_some_iff.1 he).1
              omega
            subst this
            rw [List.getElem?_append_right (by omega), hEl, Nat.sub_self] at he
            simp at he
            subst he
            rw [List.getElem?_take_of_lt (by omega), List.getElem?_eq_getElem hlt] at hx
            cases hx
            rw [n2]
            refine Gx'.fr ((Kp.of_ext e5).trans (Kp.of_fr a5 fun j hj q => ?_))
            have := lowr j hj; have := q.1; omega
      · refine z_cf (decide_eq_false (by omega)) ?_
        rw [List.take_of_length_le (by omega)] at C
        have V' := (C.own.view)
        exact kk h out e o V'.leaf V'.same (C.gv o e.1)
end
end Go.Proofs.Ytbamgdknkhhikaa
namespace Go.Proofs.Ytbamgdknkhhikaa
open Go.Ab
set_option linter.unusedSimpArgs false
set_option linter.unusedVariables false
theorem and_not {c d : Bool} {k : AV → Bool} : (optB (grdO (wantV (.bool c) true) (some (.bool d))) fun v18 => optB (grdO (wantV (.bool c) true) (notA v18)) fun v19 => optB (pickV (.bool c) v19 (.bool false)) fun v20 => k v20) = k (.bool (c && !d)) := by
  cases c with
  | false => rfl
  | true => simp only [wantV_true, grdO_true, optB_some, notA_bool, pickV_true, Bool.true_and]
theorem and_ge {h : AHeap} {c : Bool} {p : AV} {x : Int} {k : AV → Bool} (ha : loadA h false 1 p = some (.int .i64 x)) : (optB (grdO (wantV (.bool c) true) (some p)) fun v64 => optB (grdO (wantV (.bool c) true) (loadA h false 1 v64)) fun v65 => optB (grdO (wantV (.bool c) true) (binA .geq v65 (.int .i64 1))) fun v66 => optB (pickV (.bool c) v66 (.bool false)) fun v67 => k v67) = k (.bool (c && decide (1 ≤ x))) := by
  cases c with
  | false => rfl
  | true => simp only [wantV_true, grdO_true, optB_some, ha, binA_geq, pickV_true, Bool.true_and]
theorem or_b {c d : Bool} {k : AV → Bool} : (optB (grdO (wantV (.bool c) false) (some (.bool d))) fun v69 => optB (pickV (.bool c) (.bool true) v69) fun v70 => k v70) = k (.bool (c || d)) := by
  cases c with
  | true => rfl
  | false => simp only [wantV_false, Bool.not_false, grdO_true, optB_some, pickV_false, Bool.false_or]
theorem or_l {h : AHeap} {c : Bool} {p lv : AV} {len : Nat} {k : AV → Bool} (ha : loadA h false 1 p = some lv) (L : lenA h 1 lv = some (.int .i64 (len : Int))) : (optB (grdO (wantV (.bool c) false) (some p)) fun v73 => optB (grdO (wantV (.bool c) false) (loadA h false 1 v73)) fun v74 => optB (grdO (wantV (.bool c) false) (lenA h 1 v74)) fun v75 => optB (grdO (wantV (.bool c) false) (binA .gtr v75 (.int .i64 4096))) fun v76 => optB (pickV (.bool c) (.bool true) v76) fun v77 => k v77) = k (.bool (c || decide (4096 < len))) := by
  have e : decide ((4096 : Int) < (len : Int)) = decide (4096 < len) := by congr 1; apply propext; omega
  cases c with
  | true => rfl
  | false => simp only [wantV_false, Bool.not_false, grdO_true, optB_some, ha, L, binA_gtr, e, pickV_false, Bool.false_or]
theorem or_d {c : Bool} {deep : Int} {k : AV → Bool} : (optB (grdO (wantV (.bool c) false) (some (.int .i64 deep))) fun v78 => optB (grdO (wantV (.bool c) false) (binA .geq v78 (.int .i64 30))) fun v79 => optB (pickV (.bool c) (.bool true) v79) fun v80 => k v80) = k (.bool (c || decide (30 ≤ deep))) := by
  cases c with
  | true => rfl
  | false => simp only [wantV_false, Bool.not_false, grdO_true, optB_some, binA_geq, pickV_false, Bool.false_or]
theorem len_pos (len : Nat) : (!decide ((0 : Int) < (len : Int))) = decide (len = 0) := by
  by_cases h : len = 0
  · subst h; rfl
  · have : (0 : Int) < (len : Int) := by omega
    rw [decide_eq_true this, decide_eq_false h]; rfl
theorem pre62 {n : Nat} {h : AHeap} {kind x deep : Int} {b : Bool} {t : Str} {lv : AV} {len : Nat} {K : Kont} (ho : h.Ok) (hlf : lv.leaf = true) (L : ∀ h', Ext h h' → lenA h' 1 lv = some (.int .i64 (len : Int)))
    (kl : kind ≠ 4 → ∀ h', Ext h h' → h'.Ok → K (.bool (leafOk kind b x t len)) h' = true)
    (k4 : kind = 4 → ∀ h' p, Ext h h' → h'.Ok → Var h' p [.int .i64 kind, .bool b, .int .i64 x, .str t, lv] → (condB (.bool (b || !decide (x = 0) || !decide (t = []) || decide (4096 < len) || decide (30 ≤ deep))) (K (.bool false) h') (p62_55 (callN E n) n (.int .i64 deep) (.ptr p 0 0 0) h' K)) = true) :
    callN E (n + 1) (.func 62) [.agg [.int .i64 kind, .bool b, .int .i64 x, .str t, lv], .int .i64 deep] h K = true := by
  obtain ⟨lf1, lf2⟩ := leaf5 (a := .int .i64 kind) (b := .bool b) (c := .int .i64 x) (d := .str t) (e := lv) rfl rfl rfl rfl hlf
  apply d62
  unfold s62
  rw [box_eq (n := 5) (v := .agg [.int .i64 kind, .bool b, .int .i64 x, .str t, lv]) (by rw [lf1]; rfl) (by decide) (by rw [lf1]; exact lf2), optP_some, lf1]
  have e1 := ext_newRow ho [[AV.int .i64 kind, .bool b, .int .i64 x, .str t, lv]] 5
  have o1 := ok_newRow ho [[AV.int .i64 kind, .bool b, .int .i64 x, .str t, lv]] 5
  have V1 := var_new h [AV.int .i64 kind, .bool b, .int .i64 x, .str t, lv]
  simp only [List.length_cons, List.length_nil, Nat.zero_add] at V1
  generalize Ab.newRow h [[AV.int .i64 kind, .bool b, .int .i64 x, .str t, lv]] 5 = h1 at *
  generalize h.sz = p at *
  have stay := L h1 e1
  have ef : ∀ o, fadrA o (.ptr p 0 0 0) = some (.ptr p 0 0 o) := fun o => by rw [fadrA_ptr, Nat.zero_add]
  have l0 : loadA h1 false 1 (.ptr p 0 0 0) = some (.int .i64 kind) := by rw [V1.load]; rfl
  have l1 : loadA h1 false 1 (.ptr p 0 0 1) = some (.bool b) := by rw [V1.load]; rfl
  have l2 : loadA h1 false 1 (.ptr p 0 0 2) = some (.int .i64 x) := by rw [V1.load]; rfl
  have l3 : loadA h1 false 1 (.ptr p 0 0 3) = some (.str t) := by rw [V1.load]; rfl
  have l4 : loadA h1 false 1 (.ptr p 0 0 4) = some lv := by rw [V1.load]; rfl
  rw [ef 1, optB_some, l1, optB_some, ef 2, optB_some, l2, optB_some, binA_neq, optB_some, ef 3, optB_some, l3, optB_some, binA_sneq, optB_some, ef 4, optB_some, l4, optB_some, stay, optB_some, binA_gtr, optB_some, ef 0, optB_some, l0, optB_some, binA_eql, optB_some]
  by_cases c0 : kind = 0
  · subst c0
    rw [condB_t (by decide), notA_bool, optB_some, and_not, and_not, and_not, len_pos, Bool.not_not, Bool.not_not]
    exact kl (by decide) h1 e1 o1
  rw [condB_f (by simp [c0]), binA_eql, optB_some]
  by_cases c1 : kind = 1
  · subst c1
    rw [condB_t (by decide), notA_bool, optB_some, and_not, and_not, len_pos, Bool.not_not, Bool.not_not]
    exact kl (by decide) h1 e1 o1
  rw [condB_f (by simp [c1]), binA_eql, optB_some]
  by_cases c2 : kind = 2
  · subst c2
    rw [condB_t (by decide), notA_bool, optB_some, and_not, and_not, len_pos, Bool.not_not]
    exact kl (by decide) h1 e1 o1
  rw [condB_f (by simp [c2]), binA_eql, optB_some]
  by_cases c3 : kind = 3
  · subst c3
    rw [condB_t (by decide), notA_bool, optB_some, and_not, and_not, len_pos, Bool.not_not, and_len l3]
    exact kl (by decide) h1 e1 o1
  rw [condB_f (by simp [c3]), binA_eql, optB_some]
  by_cases c5 : kind = 5
  · subst c5
    rw [condB_t (by decide), notA_bool, optB_some, and_not, and_not, len_pos, Bool.not_not, and_ge l2]
    exact kl (by decide) h1 e1 o1
  rw [condB_f (by simp [c5]), binA_eql, optB_some]
  by_cases c4 : kind = 4
  · rw [condB_t (by simp [c4]), or_b, or_b, or_l l4 stay, or_d]
    exact k4 c4 h1 p e1 o1 V1
  · rw [condB_f (by simp [c4])]
    have := kl c4 h1 e1 o1
    rw [leafOk_else c0 c1 c2 c3 c5] at this
    exact this
theorem c62 : ∀ (k n : Nat) {h : AHeap} {a : List AV} {v : Val} {deep : Int} {K : Kont}, RV h a v → h.Ok → deep + (k : Int) = 30 → k ≤ 30 → szV v + k ≤ n → n < lim → (∀ h', Ext h h' → h'.Ok → K (.bool (ckV k v)) h' = true) → callN E (n + 1) (.func 62) [.agg a, .int .i64 deep] h K = true := by
  intro k
  induction k with
  | zero =>
    intro n h a v deep K R ho hd _ hsz hL kk
    cases v with
    | mk kind b x t l =>
      obtain ⟨lv, rfl, V, _⟩ := R.cells
      refine pre62 (len := l.length) ho V.leaf (fun h' e => (V.ext e).len) (fun h4 h' e o => ?_) (fun h4 h' p e o _ => ?_)
      · have := kk h' e o
        rw [ckV_leaf h4] at this; exact this
      · subst h4
        rw [condB_t (by rw [decide_eq_true (show (30 : Int) ≤ deep by omega), Bool.or_true])]
        exact kk h' e o
  | succ k ih =>
    intro n h a v deep K R ho hd hk hsz hL kk
    cases v with
    | mk kind b x t l =>
      obtain ⟨lv, rfl, V, _⟩ := R.cells
      simp only [szV] at hsz
      have hlen := szVs_len l
      refine pre62 (len := l.length) ho V.leaf (fun h' e => (V.ext e).len) (fun h4 h' e o => ?_) (fun h4 h1 p e o P => ?_)
      · have := kk h' e o
        rw [ckV_leaf h4] at this; exact this
      · subst h4
        have hd' : decide ((30 : Int) ≤ deep) = false := decide_eq_false (by omega)
        rw [hd', Bool.or_false]
        have hle : (!decide (4096 < l.length)) = decide (l.length ≤ 4096) := by
          by_cases h : l.length ≤ 4096
          · rw [decide_eq_true h, decide_eq_false (by omega)]; rfl
          · rw [decide_eq_false h, decide_eq_true (by omega)]; rfl
        have hck : ckV (k + 1) (.mk 4 b x t l) = ((!(b || !decide (x = 0) || !decide (t = []) || decide (4096 < l.length))) && l.all (ckV k)) := by
          rw [ckV_list, ← hle]
          simp only [Bool.not_or, Bool.not_not]
        cases hbad : (b || !decide (x = 0) || !decide (t = []) || decide (4096 < l.length)) with
        | true =>
          rw [condB_true]
          have := kk h1 e o
          rw [hck, hbad] at this
          exact this
        | false =>
          rw [condB_false]
          rw [hbad, Bool.not_false, Bool.true_and] at hck
          unfold p62_55
          obtain ⟨n, rfl⟩ : ∃ j, n = j + 1 := ⟨n - 1, by omega⟩
          have loop : ∀ (m i : Nat) (h2 : AHeap), Ext h1 h2 → h2.Ok → i ≤ l.length → l.length - i < m → (l.take i).all (ckV k) = true → l62_59 (callN E (n + 1)) (n + 1) m (.int .i64 deep) (.ptr p 0 0 0) (.int .i64 (i : Int)) h2 K = true := by
            intro m
            induction m with
            | zero => intro i h2 _ _ _ hm; omega
            | succ m ihm =>
              intro i h2 e2 o2 hi hm hall
              have P2 := P.ext e2
              have l4 : loadA h2 false 1 (.ptr p 0 0 4) = some lv := by rw [P2.load]; rfl
              unfold l62_59 b62_59
              rw [fadrA_ptr, optB_some, Nat.zero_add, l4, optB_some, (V.ext (e.trans e2)).len, optB_some, binA_lss, optB_some]
              by_cases hlt : i < l.length
              · have hci := List.getElem?_eq_getElem hlt
                have ht : l.take (i + 1) = l.take i ++ [l[i]] := by rw [List.take_succ_eq_append_getElem hlt]
                have hmem := szVs_mem (List.getElem_mem hlt)
                obtain ⟨id, g, j, ee, p1, p2, R2⟩ := (V.ext (e.trans e2)).at hci
                obtain ⟨g1, g2, g3, g4⟩ := R2.agg
                have hfalse : ckV k l[i] = false → l.all (ckV k) = false := by
                  intro hf
                  rw [List.all_eq_false]
                  exact ⟨l[i], List.getElem_mem hlt, by rw [hf]; decide⟩
                generalize l[i] = w at *
                rw [condB_t (by simpa using hlt), optB_some, l4, optB_some, p1, optB_some, p2, g1, optB_some, add64 (by omega) (by omega), optB_some]
                refine ih n R2 o2 (by omega) (by omega) (by omega) (by omega) ?_
                intro h4 e4 o4
                rw [notA_bool, optB_some]
                cases hc : ckV k w with
                | false =>
                  rw [Bool.not_false, condB_true]
                  have := kk h4 (e.trans (e2.trans e4)) o4
                  rw [hck, hfalse hc] at this
                  exact this
                | true =>
                  rw [Bool.not_true, condB_false, inc64 (by omega), optB_some]
                  refine ihm (i + 1) h4 (e2.trans e4) o4 (by omega) (by omega) ?_
                  rw [ht, List.all_append, hall]
                  simp [hc]
              · have hil : l.take i = l := List.take_of_length_le (by omega)
                rw [hil] at hall
                rw [condB_f (by simpa using hlt)]
                have := kk h2 (e.trans e2) o2
                rw [hck, hall] at this
                exact this
          exact loop (n + 1) 0 h1 (Ext.refl _) o (Nat.zero_le _) (by omega) rfl
theorem c42 {n : Nat} {h : AHeap} {a : List AV} {v : Val} {K : Kont} (R : RV h a v) (ho : h.Ok) (hn : szV v + 30 ≤ n) (hL : n < lim) (k : ∀ h', Ext h h' → h'.Ok → K (.bool (ckV 30 v)) h' = true) : callN E (n + 2) (.func 42) [.agg a] h K = true := by
  obtain ⟨g1, g2, g3, g4⟩ := R.agg
  have hel : a.length = 5 := by rw [← g4]; exact g2
  apply d42
  unfold s42
  rw [box_eq (n := 5) g2 (by decide) g3, optP_some, g4]
  have e1 := ext_newRow ho [a] 5
  have o1 := ok_newRow ho [a] 5
  have V1 := var_new h a
  rw [hel] at V1
  generalize Ab.newRow h [a] 5 = h1 at *
  rw [V1.load, g1, optB_some]
  exact c62 30 n (RV.ext e1 R) o1 (by omega) (Nat.le_refl _) hn hL (fun h' e o => k h' (e1.trans e) o)
end Go.Proofs.Ytbamgdknkhhikaa
namespace Go.Proofs.Ytbamgdknkhhikaa
open Go.Ab
set_option linter.unusedSimpArgs false
set_option linter.unusedVariables false
theorem c53 {n : Nat} {h : AHeap} {a a' : List AV} {x x' : Val} {K : Kont} (ho : h.Ok) (R : RV h a x) (R' : RV h a' x')
    (hl : ∀ {h1 lv lv' ll ll'} {K' : Kont}, (∃ k b n t, x = .mk k b n t ll) → VV h1 lv ll → VV h1 lv' ll' → h1.Ok → (∀ h2 r, Ext h1 h2 → h2.Ok → (r = true ↔ ll = ll') → K' (.bool r) h2 = true) → callN E n (.func 27) [lv, lv'] h1 K' = true)
    (kk : ∀ h2 r, Ext h h2 → h2.Ok → (r = true ↔ x = x') → K (.bool r) h2 = true) : callN E (n + 1) (.func 53) [.agg a, .agg a'] h K = true := by
  obtain ⟨g1, g2, g3, g4⟩ := R.agg
  obtain ⟨g1', g2', g3', g4'⟩ := R'.agg
  obtain ⟨k, b, nn, t, ll⟩ := x
  obtain ⟨k', b', nn', t', ll'⟩ := x'
  obtain ⟨lv, rfl, VL, rr⟩ := R.cells
  obtain ⟨lv', rfl, VL', rr'⟩ := R'.cells
  apply d53
  unfold s53
  obtain ⟨h1, q1, V1, e1, o1, z1⟩ := box_v (n := 5) ho g2 (by decide) g3
  rw [g4] at V1
  refine z_p q1 ?_
  obtain ⟨h2, q2, V2, e2, o2, z2⟩ := box_v (n := 5) o1 g2' (by decide) g3'
  rw [g4'] at V2
  refine z_p q2 ?_
  have V1 := V1.ext e2
  have e12 := ext_two e1 e2
  have A0 : loadA h2 false 1 (.ptr h.sz 0 0 0) = some (.int .i64 k) := V1.get rfl
  have A1 : loadA h2 false 1 (.ptr h.sz 0 0 1) = some (.bool b) := V1.get rfl
  have A2 : loadA h2 false 1 (.ptr h.sz 0 0 2) = some (.int .i64 nn) := V1.get rfl
  have A3 : loadA h2 false 1 (.ptr h.sz 0 0 3) = some (.str t) := V1.get rfl
  have A4 : loadA h2 false 1 (.ptr h.sz 0 0 4) = some lv := V1.get rfl
  have B0 : loadA h2 false 1 (.ptr h1.sz 0 0 0) = some (.int .i64 k') := V2.get rfl
  have B1 : loadA h2 false 1 (.ptr h1.sz 0 0 1) = some (.bool b') := V2.get rfl
  have B2 : loadA h2 false 1 (.ptr h1.sz 0 0 2) = some (.int .i64 nn') := V2.get rfl
  have B3 : loadA h2 false 1 (.ptr h1.sz 0 0 3) = some (.str t') := V2.get rfl
  have B4 : loadA h2 false 1 (.ptr h1.sz 0 0 4) = some lv' := V2.get rfl
  have no : ∀ {p : Prop}, ¬ p → ((Val.mk k b nn t ll = Val.mk k' b' nn' t' ll') → p) → K (.bool false) h2 = true := fun hp hq => kk h2 false e12 o2 ⟨fun h => (by cases h), fun h => absurd (hq h) hp⟩
  refine z_fadr ?_; refine z_of A0 ?_; refine z_fadr ?_; refine z_of B0 ?_; refine z_eql ?_
  by_cases c0 : k = k'
  rotate_left
  · rw [decide_eq_false c0]
    refine z_gft ?_; refine z_gft ?_; refine z_gft ?_; refine z_gft ?_; refine z_gft ?_; refine z_kf ?_; refine z_gft ?_; refine z_gft ?_; refine z_gft ?_; refine z_gft ?_; refine z_gft ?_; refine z_kf ?_; refine z_gft ?_; refine z_gft ?_; refine z_gft ?_; refine z_gft ?_; refine z_gft ?_; refine z_kf ?_; refine z_gft ?_; refine z_gft ?_; refine z_gft ?_; refine z_gft ?_; refine z_rft ?_; refine z_kf ?_
    exact no c0 fun h => by cases h; rfl
  rw [decide_eq_true c0]
  refine z_gtt ?_; refine z_fadr ?_; refine z_gtt ?_; refine z_of A1 ?_; refine z_gtt ?_; refine z_fadr ?_; refine z_gtt ?_; refine z_of B1 ?_; refine z_gtt ?_; refine z_of (eqV_b h2 b b') ?_; refine z_kt ?_
  by_cases c1 : b = b'
  rotate_left
  · rw [beq_eq_false_iff_ne.2 c1]
    refine z_gft ?_; refine z_gft ?_; refine z_gft ?_; refine z_gft ?_; refine z_gft ?_; refine z_kf ?_; refine z_gft ?_; refine z_gft ?_; refine z_gft ?_; refine z_gft ?_; refine z_gft ?_; refine z_kf ?_; refine z_gft ?_; refine z_gft ?_; refine z_gft ?_; refine z_gft ?_; refine z_rft ?_; refine z_kf ?_
    exact no c1 fun h => by cases h; rfl
  rw [beq_iff_eq.2 c1]
  refine z_gtt ?_; refine z_fadr ?_; refine z_gtt ?_; refine z_of A2 ?_; refine z_gtt ?_; refine z_fadr ?_; refine z_gtt ?_; refine z_of B2 ?_; refine z_gtt ?_; refine z_eql ?_; refine z_kt ?_
  by_cases c2 : nn = nn'
  rotate_left
  · rw [decide_eq_false c2]
    refine z_gft ?_; refine z_gft ?_; refine z_gft ?_; refine z_gft ?_; refine z_gft ?_; refine z_kf ?_; refine z_gft ?_; refine z_gft ?_; refine z_gft ?_; refine z_gft ?_; refine z_rft ?_; refine z_kf ?_
    exact no c2 fun h => by cases h; rfl
  rw [decide_eq_true c2]
  refine z_gtt ?_; refine z_fadr ?_; refine z_gtt ?_; refine z_of A3 ?_; refine z_gtt ?_; refine z_fadr ?_; refine z_gtt ?_; refine z_of B3 ?_; refine z_gtt ?_; refine z_seq ?_; refine z_kt ?_
  by_cases c3 : t = t'
  rotate_left
  · rw [decide_eq_false c3]
    refine z_gft ?_; refine z_gft ?_; refine z_gft ?_; refine z_gft ?_; refine z_rft ?_; refine z_kf ?_
    exact no c3 fun h => by cases h; rfl
  rw [decide_eq_true c3]
  refine z_gtt ?_; refine z_fadr ?_; refine z_gtt ?_; refine z_of A4 ?_; refine z_gtt ?_; refine z_fadr ?_; refine z_gtt ?_; refine z_of B4 ?_; refine z_rtt ?_
  refine hl ⟨k, b, nn, t, rfl⟩ ((VL.ext e1).ext e2) ((VL'.ext e1).ext e2) o2 fun h3 r e3 o3 hr => ?_
  refine z_kt ?_
  refine kk h3 r (ext_two e12 e3) o3 (hr.trans ⟨fun h => ?_, fun h => ?_⟩)
  · rw [c0, c1, c2, c3, h]
  · cases h; rfl
theorem c27 : ∀ (k n : Nat) {h : AHeap} {v v' : AV} {l l' : List Val} {K : Kont}, VV h v l → VV h v' l' → h.Ok → szVs l ≤ k → 2 * k + 2 ≤ n → k < 1000000000 → n < lim →
    (∀ h2 r, Ext h h2 → h2.Ok → (r = true ↔ l = l') → K (.bool r) h2 = true) → callN E (n + 1) (.func 27) [v, v'] h K = true := by
  intro k
  induction k with
  | zero =>
    intro n h v v' l l' K V V' ho hk hn hB hL kk
    have : l = [] := by
      cases l with
      | nil => rfl
      | cons x t => have := szVs_len (x :: t); simp at this; omega
    subst this
    apply d27
    unfold s27
    refine z_of V.len ?_; refine z_of V'.len ?_; refine z_neq ?_
    cases l' with
    | cons x t =>
      refine z_ct (by simp; omega) ?_
      exact kk h false (Ext.refl _) ho (by simp)
    | nil =>
      refine z_cf (by simp) ?_
      unfold p27_10
      obtain ⟨n, rfl⟩ : ∃ j, n = j + 1 := ⟨n - 1, by omega⟩
      unfold l27_14 b27_14
      refine z_of V.len ?_; refine z_lss ?_
      exact kk h true (Ext.refl _) ho (by simp)
  | succ k ih =>
    intro n hs v v' l l' K V V' ho hk hn hB hL kk
    have hlm : lim = 4611686018427387904 := rfl
    have hlen := szVs_len l
    apply d27
    unfold s27
    refine z_of V.len ?_; refine z_of V'.len ?_; refine z_neq ?_
    by_cases hll : l.length = l'.length
    rotate_left
    · refine z_ct (by rw [decide_eq_false (by omega)]; rfl) ?_
      exact kk hs false (Ext.refl _) ho ⟨fun h => (by cases h), fun h => absurd (by rw [h]) hll⟩
    refine z_cf (by rw [decide_eq_true (by omega)]; rfl) ?_
    unfold p27_10
    suffices H : ∀ m i h, l.length - i < m → i ≤ l.length → Ext hs h → h.Ok → l.take i = l'.take i → l27_14 (callN E n) n m v v' (.int .i64 (i : Int)) h K = true from
      H n 0 hs (by omega) (Nat.zero_le _) (Ext.refl _) ho rfl
    intro m
    induction m with
    | zero => intro i h hm; omega
    | succ m ihm =>
      intro i h hm hi e o C
      unfold l27_14 b27_14
      refine z_of (V.ext e).len ?_; refine z_lss ?_
      by_cases hlt : i < l.length
      · refine z_ct (decide_eq_true (by omega)) ?_
        obtain ⟨id, g, j, ee, p1, p2, R⟩ := (V.ext e).at (List.getElem?_eq_getElem hlt)
        obtain ⟨id', g', j', ee', p1', p2', R'⟩ := (V'.ext e).at (List.getElem?_eq_getElem (show i < l'.length by omega))
        have A : loadA h true 5 (.ptr id g j 0) = some (.agg ee) := by rw [p2]; exact R.agg.1
        have A' : loadA h true 5 (.ptr id' g' j' 0) = some (.agg ee') := by rw [p2']; exact R'.agg.1
        have hm2 := szVs_mem (List.getElem_mem hlt)
        refine z_of (p1 .i64) ?_; refine z_of A ?_; refine z_of (p1' .i64) ?_; refine z_of A' ?_
        obtain ⟨n, rfl⟩ : ∃ j, n = j + 2 := ⟨n - 2, by omega⟩
        refine c53 (n := n + 1) o R R' (fun {h1 lv lv' ll ll' K'} hx V1 V1' o1 kk' => ?_) fun h4 r e4 o4 hr => ?_
        · obtain ⟨k', b, nn, t, hx⟩ := hx
          have : szVs ll + 1 ≤ szVs l := by rw [hx] at hm2; simp only [szV] at hm2; omega
          exact ih n V1 V1' o1 (by omega) (by omega) (by omega) (by omega) kk'
        · have t1 : l.take (i + 1) = l.take i ++ [l[i]] := by rw [List.take_succ_eq_append_getElem hlt]
          have t2 : l'.take (i + 1) = l'.take i ++ [l'[i]'(by omega)] := by rw [List.take_succ_eq_append_getElem (by omega)]
          cases r with
          | false =>
            refine z_notF ?_; refine z_cT ?_
            refine kk h4 false (ext_two e e4) o4 ⟨fun h => (by cases h), fun h => ?_⟩
            subst h
            exact hr.2 rfl
          | true =>
            refine z_notT ?_; refine z_cF ?_; refine z_of (inc64 (i := i) (by omega)) ?_
            exact ihm (i + 1) h4 (by omega) (by omega) (ext_two e e4) o4 (by rw [t1, t2, C, hr.1 rfl])
      · refine z_cf (decide_eq_false (by omega)) ?_
        refine kk h true e o ⟨fun _ => ?_, fun _ => rfl⟩
        rw [List.take_of_length_le (by omega), List.take_of_length_le (by omega)] at C
        exact C
end Go.Proofs.Ytbamgdknkhhikaa
namespace Go.Proofs.Ytbamgdknkhhikaa
open Go.Ab
set_option linter.unusedSimpArgs false
set_option linter.unusedVariables false
theorem c49 {n S : Nat} {hs : AHeap} {v v' : AV} {l l' : List Elm} {K : Kont} (V : EV hs v l) (V' : EV hs v' l') (ho : hs.Ok) (hS : ∀ e ∈ l, szVs e.vs ≤ S) (hlen : l.length ≤ n) (hn : 2 * S + 2 ≤ n) (hB : S < 1000000000) (hL : n < lim)
    (kk : ∀ h2 r, Ext hs h2 → h2.Ok → (r = true ↔ l = l') → K (.bool r) h2 = true) : callN E (n + 2) (.func 49) [v, v'] hs K = true := by
  have hlm : lim = 4611686018427387904 := rfl
  apply d49
  unfold s49
  refine z_of V.len ?_; refine z_of V'.len ?_; refine z_neq ?_
  by_cases hll : l.length = l'.length
  rotate_left
  · refine z_ct (by rw [decide_eq_false (by omega)]; rfl) ?_
    exact kk hs false (Ext.refl _) ho ⟨fun h => (by cases h), fun h => absurd (by rw [h]) hll⟩
  refine z_cf (by rw [decide_eq_true (by omega)]; rfl) ?_
  unfold p49_10
  suffices H : ∀ m i h, l.length - i < m → i ≤ l.length → Ext hs h → h.Ok → l.take i = l'.take i → l49_14 (callN E (n + 1)) (n + 1) m v v' (.int .i64 (i : Int)) h K = true from
    H (n + 1) 0 hs (by omega) (Nat.zero_le _) (Ext.refl _) ho rfl
  intro m
  induction m with
  | zero => intro i h hm; omega
  | succ m ihm =>
    intro i h hm hi e o C
    unfold l49_14 b49_14
    refine z_of (V.ext e).len ?_; refine z_lss ?_
    by_cases hlt : i < l.length
    · refine z_ct (decide_eq_true (by omega)) ?_
      have hlt' : i < l'.length := by omega
      obtain ⟨id, g, j, ee, p1, p2, R⟩ := (V.ext e).at (List.getElem?_eq_getElem hlt)
      obtain ⟨id', g', j', ee', p1', p2', R'⟩ := (V'.ext e).at (List.getElem?_eq_getElem hlt')
      have hS' := hS _ (List.getElem_mem hlt)
      have t1 : l.take (i + 1) = l.take i ++ [l[i]] := by rw [List.take_succ_eq_append_getElem hlt]
      have t2 : l'.take (i + 1) = l'.take i ++ [l'[i]] := by rw [List.take_succ_eq_append_getElem hlt']
      have no : ∀ {p : Prop} {h2 : AHeap}, Ext hs h2 → h2.Ok → ¬ p → (l[i] = l'[i] → p) → K (.bool false) h2 = true := fun e2 o2 hp hq => kk _ false e2 o2 ⟨fun h => (by cases h), fun h => absurd (hq (by subst h; rfl)) hp⟩
      generalize l[i] = x at *
      generalize l'[i] = x' at *
      obtain ⟨d, s, vs⟩ := x
      obtain ⟨d', s', vs'⟩ := x'
      obtain ⟨vv, rfl, VL, _⟩ := R
      obtain ⟨vv', rfl, VL', _⟩ := R'
      have A0 : loadA h false 1 (.ptr id g j 0) = some (.int .i64 d) := by rw [p2]; rfl
      have A1 : loadA h false 1 (.ptr id g j 1) = some (.int .i64 s) := by rw [p2]; rfl
      have A2 : loadA h false 1 (.ptr id g j 2) = some vv := by rw [p2]; rfl
      have B0 : loadA h false 1 (.ptr id' g' j' 0) = some (.int .i64 d') := by rw [p2']; rfl
      have B1 : loadA h false 1 (.ptr id' g' j' 1) = some (.int .i64 s') := by rw [p2']; rfl
      have B2 : loadA h false 1 (.ptr id' g' j' 2) = some vv' := by rw [p2']; rfl
      refine z_of (p1 .i64) ?_; refine z_fadr ?_; refine z_of A0 ?_; refine z_of (p1' .i64) ?_; refine z_fadr ?_; refine z_of B0 ?_; refine z_neq ?_
      by_cases c0 : d = d'
      rotate_left
      · rw [decide_eq_false c0, Bool.not_false]
        refine z_gtf ?_; refine z_gtf ?_; refine z_gtf ?_; refine z_gtf ?_; refine z_gtf ?_; refine z_gtf ?_; refine z_gtf ?_; refine z_gtf ?_; refine z_gtf ?_; refine z_gtf ?_; refine z_gtf ?_; refine z_kt ?_; refine z_gtf ?_; refine z_gtf ?_; refine z_gtf ?_; refine z_gtf ?_; refine z_gtf ?_; refine z_gtf ?_; refine z_gtf ?_; refine z_gtf ?_; refine z_gtf ?_; refine z_gtf ?_; refine z_rtf ?_; refine z_gtf ?_; refine z_kt ?_; refine z_cT ?_
        exact no e o c0 fun h => by cases h; rfl
      rw [decide_eq_true c0, Bool.not_true]
      refine z_gff ?_; refine z_some ?_; refine z_gff ?_; refine z_some ?_; refine z_gff ?_; refine z_of (p1 .i64) ?_; refine z_gff ?_; refine z_fadr ?_; refine z_gff ?_; refine z_of A1 ?_; refine z_gff ?_; refine z_some ?_; refine z_gff ?_; refine z_some ?_; refine z_gff ?_; refine z_of (p1' .i64) ?_; refine z_gff ?_; refine z_fadr ?_; refine z_gff ?_; refine z_of B1 ?_; refine z_gff ?_; refine z_neq ?_; refine z_kf ?_
      by_cases c1 : s = s'
      rotate_left
      · rw [decide_eq_false c1, Bool.not_false]
        refine z_gtf ?_; refine z_gtf ?_; refine z_gtf ?_; refine z_gtf ?_; refine z_gtf ?_; refine z_gtf ?_; refine z_gtf ?_; refine z_gtf ?_; refine z_gtf ?_; refine z_gtf ?_; refine z_rtf ?_; refine z_gtf ?_; refine z_kt ?_; refine z_cT ?_
        exact no e o c1 fun h => by cases h; rfl
      rw [decide_eq_true c1, Bool.not_true]
      refine z_gff ?_; refine z_some ?_; refine z_gff ?_; refine z_some ?_; refine z_gff ?_; refine z_of (p1 .i64) ?_; refine z_gff ?_; refine z_fadr ?_; refine z_gff ?_; refine z_of A2 ?_; refine z_gff ?_; refine z_some ?_; refine z_gff ?_; refine z_some ?_; refine z_gff ?_; refine z_of (p1' .i64) ?_; refine z_gff ?_; refine z_fadr ?_; refine z_gff ?_; refine z_of B2 ?_; refine z_rff ?_
      refine c27 S n VL VL' o hS' hn hB (by omega) fun h4 r e4 o4 hr => ?_
      cases r with
      | false =>
        refine z_gff ?_; refine z_notF ?_; refine z_kf ?_; refine z_cT ?_
        exact no (ext_two e e4) o4 (fun h => (by cases hr.2 h)) fun h => by cases h; rfl
      | true =>
        refine z_gff ?_; refine z_notT ?_; refine z_kf ?_; refine z_cF ?_; refine z_of (inc64 (i := i) (by omega)) ?_
        refine ihm (i + 1) h4 (by omega) (by omega) (ext_two e e4) o4 ?_
        have hv : vs = vs' := hr.1 rfl
        rw [t1, t2, C, c0, c1, hv]
    · refine z_cf (decide_eq_false (by omega)) ?_
      refine kk h true e o ⟨fun _ => ?_, fun _ => rfl⟩
      rw [List.take_of_length_le (by omega), List.take_of_length_le (by omega)] at C
      exact C
theorem c17 {n S : Nat} {h : AHeap} {c c' : Int} {ev nv ev' nv' : AV} {l l' : List Elm} {K : Kont} (V : EV h ev l) (V' : EV h ev' l') (hnv : nv.leaf = true) (hnv' : nv'.leaf = true) (ho : h.Ok) (hS : ∀ e ∈ l, szVs e.vs ≤ S) (hlen : l.length ≤ n) (hn : 2 * S + 2 ≤ n) (hB : S < 1000000000) (hL : n < lim)
    (kk : ∀ h2 r, Ext h h2 → h2.Ok → (r = true ↔ c = c' ∧ l = l') → K (.bool r) h2 = true) : callN E (n + 3) (.func 17) [.agg [.int .i64 c, ev, nv], .agg [.int .i64 c', ev', nv']] h K = true := by
  apply d17
  unfold s17
  have cl : ∀ {x a b : AV}, x.leaf = true → a.leaf = true → b.leaf = true → (AV.agg [x, a, b]).cells = [x, a, b] ∧ allLeaf [x, a, b] = true := fun h1 h2 h3 => ⟨rfl, by simp only [allLeaf, h1, h2, h3]; rfl⟩
  have L := cl (x := .int .i64 c) rfl V.leaf hnv
  have L' := cl (x := .int .i64 c') rfl V'.leaf hnv'
  obtain ⟨h1, q1, V1, e1, o1, z1⟩ := box_v (n := 3) (v := .agg [.int .i64 c, ev, nv]) ho (by rw [L.1]; rfl) (by decide) (by rw [L.1]; exact L.2)
  rw [L.1] at V1
  refine z_p q1 ?_
  obtain ⟨h2, q2, V2, e2, o2, z2⟩ := box_v (n := 3) (v := .agg [.int .i64 c', ev', nv']) o1 (by rw [L'.1]; rfl) (by decide) (by rw [L'.1]; exact L'.2)
  rw [L'.1] at V2
  refine z_p q2 ?_
  have V1 := V1.ext e2
  have e12 := ext_two e1 e2
  have A0 : loadA h2 false 1 (.ptr h.sz 0 0 0) = some (.int .i64 c) := V1.get rfl
  have A1 : loadA h2 false 1 (.ptr h.sz 0 0 1) = some ev := V1.get rfl
  have B0 : loadA h2 false 1 (.ptr h1.sz 0 0 0) = some (.int .i64 c') := V2.get rfl
  have B1 : loadA h2 false 1 (.ptr h1.sz 0 0 1) = some ev' := V2.get rfl
  refine z_fadr ?_; refine z_of A0 ?_; refine z_fadr ?_; refine z_of B0 ?_; refine z_eql ?_
  by_cases c0 : c = c'
  rotate_left
  · rw [decide_eq_false c0]
    refine z_gft ?_; refine z_gft ?_; refine z_gft ?_; refine z_gft ?_; refine z_rft ?_; refine z_kf ?_
    exact kk h2 false e12 o2 ⟨fun h => (by cases h), fun h => absurd h.1 c0⟩
  rw [decide_eq_true c0]
  refine z_gtt ?_; refine z_fadr ?_; refine z_gtt ?_; refine z_of A1 ?_; refine z_gtt ?_; refine z_fadr ?_; refine z_gtt ?_; refine z_of B1 ?_; refine z_rtt ?_
  refine c49 (V.ext e12) (V'.ext e12) o2 hS hlen hn hB hL fun h3 r e3 o3 hr => ?_
  refine z_kt ?_
  exact kk h3 r (ext_two e12 e3) o3 (hr.trans ⟨fun h => ⟨c0, h⟩, fun h => h.2⟩)
end Go.Proofs.Ytbamgdknkhhikaa
namespace Go.Proofs.Ytbamgdknkhhikaa
open Go.Ab
set_option linter.unusedSimpArgs false
set_option linter.unusedVariables false
theorem ints_get {l : List Int} {i : Nat} (h : i < l.length) : (ints l)[i]? = some [AV.int .i64 l[i]] := by
  simp only [ints, List.getElem?_map, List.getElem?_eq_getElem h, Option.map_some]
theorem c15 {n : Nat} {h : AHeap} {v : AV} {l : List Int} {x : Int} {K : Kont} (V : View h 1 v (ints l)) (hlen : l.length < n) (hL : n < lim)
    (kk : ∀ r, (r = true ↔ x ∈ l) → K (.bool r) h = true) : callN E (n + 1) (.func 15) [v, .int .i64 x] h K = true := by
  apply d15
  unfold s15
  have hvl : lenA h 1 v = some (.int .i64 (l.length : Int)) := by rw [V.len]; simp only [ints, List.length_map]
  suffices H : ∀ m i, l.length - i < m → i ≤ l.length → x ∉ l.take i → l15_6 (callN E n) n m v (.int .i64 x) (.int .i64 (i : Int)) h K = true from
    H n 0 (by omega) (Nat.zero_le _) (by simp)
  intro m
  induction m with
  | zero => intro i hm; omega
  | succ m ihm =>
    intro i hm hi C
    unfold l15_6 b15_6
    refine z_of hvl ?_; refine z_lss ?_
    by_cases hlt : i < l.length
    · refine z_ct (decide_eq_true (by omega)) ?_
      obtain ⟨id, g, j, p1, p2⟩ := V.at1 (ints_get hlt)
      have A : loadA h false 1 (.ptr id g j 0) = some (.int .i64 l[i]) := by rw [p2]; rfl
      refine z_of (p1 .i64) ?_; refine z_of A ?_; refine z_eql ?_
      by_cases c0 : l[i] = x
      · refine z_ct (decide_eq_true c0) ?_
        exact kk true ⟨fun _ => c0 ▸ List.getElem_mem hlt, fun _ => rfl⟩
      · refine z_cf (decide_eq_false c0) ?_
        refine z_of (inc64 (i := i) (by omega)) ?_
        refine ihm (i + 1) (by omega) (by omega) ?_
        rw [List.take_succ_eq_append_getElem hlt, List.mem_append, List.mem_singleton]
        exact fun h => h.elim C fun h => c0 h.symm
    · refine z_cf (decide_eq_false (by omega)) ?_
      rw [List.take_of_length_le (by omega)] at C
      exact kk false ⟨fun h => (by cases h), fun h => absurd h C⟩
end Go.Proofs.Ytbamgdknkhhikaa
namespace Go.Proofs.Ytbamgdknkhhikaa
open Go.Ab
set_option linter.unusedSimpArgs false
set_option linter.unusedVariables false
theorem own_sets {b : Nat} {h : AHeap} {n i : Nat} {v x : AV} {es : List (List AV)} {e : List AV} (O : Own b h n v es) (hi : es[i]? = some e) (hl : e.length = n) (hx : x.cells.length = n) (hf : allLeaf x.cells = true) :
    ∃ id g, (∀ k, iadrA h n v (.int k (i : Int)) = some (.ptr id g i 0)) ∧ inRow v id ∧ ∃ h', storeA h n (.ptr id g i 0) x = some h' ∧ Own b h' n v (es.set i x.cells) ∧ But id h h' ∧ (h.Ok → h'.Ok) := by
  have hlt : i < es.length := (List.getElem?_eq_some_iff.1 hi).1
  rcases O with ⟨rfl, rfl⟩ | ⟨id, r, w1, rfl, w3, w4, w5, w6, w7⟩
  · simp at hi
  · refine ⟨id, r.g, fun k => ?_, ⟨_, _, _, _, _, rfl⟩, h.put id (.row { r with es := es.set i x.cells, m := r.g }), ?_, ?_, But.put _ _ _, fun o => o.put (o.lt (AHeap.row_some.1 w3)) _⟩
    · have : rowSz h id n = true := by simp only [rowSz, w3, nbeq_true]; exact w6
      simp only [iadrA, asNat_nat, nblt_true.2 hlt, this, Bool.and_self, cond_true, Nat.zero_add]
    · have hn : nth r.es i = some e := by rw [nth_eq, w7]; exact hi
      have hlay : lay e 0 x.cells = x.cells := by simp [lay]; omega
      simp only [storeA, w3, w4, Nat.beq_refl, nbeq_true.2 hx, hf, Bool.and_self, cond_true, hn, Nat.zero_add]
      rw [nble_true.2 (by omega), cond_true, setNth_eq, hlay, w7]
    · exact .inr ⟨id, _, w1, by simp only [List.length_set], AHeap.row_some.2 (get_put_same _ _ _), w4, Nat.le_refl _, w6, rfl⟩
end Go.Proofs.Ytbamgdknkhhikaa
namespace Go.Proofs.Ytbamgdknkhhikaa
open Go.Ab
set_option linter.unusedSimpArgs false
set_option linter.unusedVariables false
theorem Ow.opened : ∀ {k lo hi : Nat} {h : AHeap} {v : AV} {l : List Val}, Ow k lo hi h v l → ∃ (es : List (List AV)) (reg : Nat → Nat × Nat), Own lo h 5 v es ∧ (∀ j, inRow v j → j < hi) ∧ es.length = l.length ∧
    (∀ i, i < es.length → lo ≤ (reg i).1 ∧ (reg i).2 ≤ hi ∧ ∀ j, inRow v j → ¬ ((reg i).1 ≤ j ∧ j < (reg i).2)) ∧
    (∀ i i', i < i' → i' < es.length → (reg i).2 ≤ (reg i').1) ∧
    ∀ (i : Nat) e x, es[i]? = some e → l[i]? = some x → ∃ lv, e = shape x lv ∧ lv.leaf = true ∧ ∃ k', k = k' + 1 ∧ Ow k' (reg i).1 (reg i).2 h lv x.ls
  | 0, lo, hi, h, v, l, ⟨e1, e2⟩ => by
    subst e1; subst e2
    exact ⟨[], fun _ => (0, 0), .inl ⟨rfl, rfl⟩, fun j i => absurd i inRow_nil, rfl, by simp, by simp, by simp⟩
  | k + 1, lo, hi, h, v, l, O => by
    obtain ⟨es, reg, a1, a2, a3, a4, a5, a6⟩ := O
    exact ⟨es, reg, a1, a2, a3, a4, a5, fun i e x he hx => let ⟨lv, b1, b2, b3⟩ := a6 i e x he hx; ⟨lv, b1, b2, k, rfl, b3⟩⟩
theorem Own.fr {b n : Nat} {X : Nat → Prop} {h h' : AHeap} {v : AV} {es : List (List AV)} (O : Own b h n v es) (f : Fr X h h') (d : ∀ j, inRow v j → ¬ X j) : Own b h' n v es := by
  rcases O with V | ⟨id, r, w1, w2, w3, w4⟩
  · exact .inl V
  · exact .inr ⟨id, r, w1, w2, f.row (d id (by rw [w2]; exact ⟨_, _, _, _, _, rfl⟩)) w3, w4⟩
theorem shape_leaf {x : Val} {lv : AV} (h : lv.leaf = true) : (AV.agg (shape x lv)).cells = shape x lv ∧ allLeaf (shape x lv) = true ∧ (shape x lv).length = 5 := by
  obtain ⟨k, b, n, t, l⟩ := x
  exact ⟨rfl, by simp only [shape, allLeaf, h]; rfl, rfl⟩
theorem shape4 (x : Val) (lv : AV) : nth (shape x lv) 4 = some lv := by cases x; rfl
abbrev Inn (lo hi : Nat) : Nat → Prop := fun j => lo ≤ j ∧ j < hi
abbrev zV : AV := .agg [.int .i64 0, .bool false, .int .i64 0, .str [], .nilSlc]
structure Rest (lo hi i : Nat) (es : List (List AV)) (reg : Nat → Nat × Nat) (h g : AHeap) (v : AV) : Prop where
  own : ∃ es', Own lo g 5 v es' ∧ es'.length = es.length ∧ ∀ j, i ≤ j → es'[j]? = es[j]?
  fr : Fr (Inn lo hi) h g
  kp : ∀ j, i ≤ j → j < es.length → Kp (reg j).1 (reg j).2 h g
theorem Rest.step {lo hi i : Nat} {es : List (List AV)} {reg : Nat → Nat × Nat} {h g g1 : AHeap} {v x : AV} {eo : List AV} (R : Rest lo hi i es reg h g v) (hr : ∀ j, inRow v j → j < hi) (hlo : ∀ j, inRow v j → lo ≤ j)
    (r1 : ∀ i, i < es.length → lo ≤ (reg i).1 ∧ (reg i).2 ≤ hi ∧ ∀ j, inRow v j → ¬ ((reg i).1 ≤ j ∧ j < (reg i).2)) (r2 : ∀ i i', i < i' → i' < es.length → (reg i).2 ≤ (reg i').1) (hi' : i < es.length) (heo : es[i]? = some eo) (hl : eo.length = 5)
    (f1 : Fr (Inn (reg i).1 (reg i).2) g g1) (o1 : g1.Ok) (hx : x.cells.length = 5) (hf : allLeaf x.cells = true) :
    ∃ id gg, (∀ k, iadrA g1 5 v (.int k (i : Int)) = some (.ptr id gg i 0)) ∧ ∃ g2, storeA g1 5 (.ptr id gg i 0) x = some g2 ∧ g2.Ok ∧ Rest lo hi (i + 1) es reg h g2 v := by
  obtain ⟨es', w1, w2, w3⟩ := R.own
  have W := Own.fr w1 f1 fun j hj => (r1 i hi').2.2 j hj
  obtain ⟨id, gg, p1, p2, g2, p3, p4, p5, p6⟩ := own_sets W (by rw [w3 i (Nat.le_refl _)]; exact heo) hl hx hf
  refine ⟨id, gg, p1, g2, p3, p6 o1, ⟨_, p4, by rw [List.length_set, w2], fun j hj => ?_⟩, ?_, fun j hj hj2 => ?_⟩
  · rw [List.getElem?_set_ne (by omega)]; exact w3 j (by omega)
  · refine (R.fr.trans (f1.mono fun j hj => ⟨Nat.le_trans (r1 i hi').1 hj.1, Nat.lt_of_lt_of_le hj.2 (r1 i hi').2.1⟩)).trans (Fr.of_but ⟨hlo id p2, hr id p2⟩ p5)
  · have := r2 i j (by omega) hj2
    refine (R.kp j (by omega) hj2).trans ((Kp.of_fr f1 fun q hq hq2 => ?_).trans (Kp.of_but p5 fun q => (r1 j hj2).2.2 id p2 q))
    have := hq.2; have := hq2.1; omega
theorem over_end {lo hi : Nat} {g : AHeap} {v : AV} {es : List (List AV)} (O : Own lo g 5 v es) (hr : ∀ j, inRow v j → j < hi) (hlo : ∀ j, inRow v j → lo ≤ j) (o : g.Ok) (hb : es.length < 1000000000) :
    ∃ w g1, bsliceV g 1 5 [AV.int .i64 0, .bool false, .int .i64 0, .str [], .nilSlc] [(0, zV)] = some (w, g1) ∧ Ext g g1 ∧ ∃ v' g2, appendA g1 5 64 v w = some (v', g2) ∧ Fr (Inn lo hi) g g2 ∧
      ∃ id gg, (∀ k, iadrA g2 5 v' (.int k (es.length : Int)) = some (.ptr id gg es.length 0)) ∧ ∃ g3, storeA g2 5 (.ptr id gg es.length 0) (.agg [.int .i64 97, .bool false, .int .i64 0, .str [], .nilSlc]) = some g3 ∧ Fr (Inn lo hi) g g3 ∧ g3.Ok := by
  have hmo : most = 1099511627776 := rfl
  obtain ⟨w, g1, b1, b2, e1, o1, z1, _⟩ := bslice1_v (sz := 5) (z := [AV.int .i64 0, .bool false, .int .i64 0, .str [], .nilSlc]) (v := zV) o rfl (by decide) (by decide) rfl rfl rfl
  obtain ⟨v', g2, a1, a2, a3, a4, a5⟩ := own_app (bytes := 64) (own_low (O.ext e1)) (by decide) o1 b2.src (by simp; omega) (by simp; omega)
  have f2 : Fr (Inn lo hi) g g2 := (Fr.of_ext e1).trans (a4.mono fun j hj => ⟨hlo j hj, hr j hj⟩)
  obtain ⟨id, gg, p1, p2, g3, p3, p4, p5, p6⟩ := own_sets (i := es.length) (x := .agg [.int .i64 97, .bool false, .int .i64 0, .str [], .nilSlc]) a2 (List.getElem?_concat_length ..) rfl rfl rfl
  refine ⟨w, g1, b1, e1, v', g2, a1, f2, id, gg, p1, g3, p3, f2.new (Fr.of_but ?_ p5) o, p6 a3⟩
  rcases a5 id p2 with q | q
  · exact .inl ⟨hlo id q, hr id q⟩
  · have := e1.1; exact .inr (by omega)
end Go.Proofs.Ytbamgdknkhhikaa
namespace Go.Proofs.Ytbamgdknkhhikaa
open Go.Ab
set_option linter.unusedSimpArgs false
set_option linter.unusedVariables false
theorem Own.len' {b n : Nat} {h h' : AHeap} {v : AV} {es : List (List AV)} (O : Own b h n v es) : lenA h' 1 v = some (.int .i64 (es.length : Int)) := by
  rcases O with ⟨rfl, rfl⟩ | ⟨id, r, _, rfl, _⟩ <;> rfl
theorem c45 : ∀ (k n : Nat) {hs : AHeap} {lv : AV} {lo hi : Nat} {x : Val} {K : Kont}, Ow k lo hi hs lv x.ls → lv.leaf = true → hs.Ok → hi ≤ hs.sz → szV x ≤ n → szV x < 1000000000 → n < lim →
    (∀ h', Fr (Inn lo hi) hs h' → h'.Ok → K (.tup []) h' = true) → callN E (n + 1) (.func 45) [.agg (shape x lv)] hs K = true := by
  intro k
  induction k using Nat.strongRecOn with
  | ind k ih =>
    intro n hs lv lo hi x K OW hlf ho hhi hn hB hL kk
    have hlm : lim = 4611686018427387904 := rfl
    obtain ⟨L1, L2, L3⟩ := shape_leaf (x := x) hlf
    apply d45
    unfold s45
    obtain ⟨h1, q1, V1, e1, o1, z1⟩ := box_v (n := 5) (v := .agg (shape x lv)) ho (by rw [L1]; exact L3) (by decide) (by rw [L1]; exact L2)
    rw [L1] at V1
    refine z_p q1 ?_
    obtain ⟨es, reg, a1, a2, a3, a4, a5, a6⟩ := OW.opened
    have hlo : ∀ j, inRow lv j → lo ≤ j := fun j hj => own_row a1 hj
    have hsz : szVs x.ls + 1 ≤ szV x := by cases x; simp only [Val.ls, szV]; omega
    have hlen := szVs_len x.ls
    suffices H : ∀ m i g, es.length - i < m → i ≤ es.length → g.Ok → Rest lo hi i es reg h1 g lv → l45_6 (callN E n) n m (.ptr hs.sz 0 0 0) (.int .i64 (i : Int)) g K = true from
      H n 0 h1 (by omega) (Nat.zero_le _) o1 ⟨⟨es, a1.ext e1, rfl, fun _ _ => rfl⟩, Fr.refl _ _, fun j _ _ => Kp.refl _ _ _⟩
    intro m
    induction m with
    | zero => intro i g hm; omega
    | succ m ihm =>
      intro i g hm hi' o R
      have A4 : loadA g false 1 (.ptr hs.sz 0 0 4) = some lv := (R.fr.var V1 (fun q => by have := q.2; omega)).get (shape4 x lv)
      obtain ⟨es', w1, w2, w3⟩ := R.own
      have hle : ∀ h', lenA h' 1 lv = some (.int .i64 (es.length : Int)) := fun h' => by rw [Own.len' w1, w2]
      unfold l45_6 b45_6
      refine z_fadr ?_; refine z_of A4 ?_; refine z_of (hle g) ?_; refine z_lss ?_
      by_cases hlt : i < es.length
      · refine z_ct (decide_eq_true (by omega)) ?_
        have hx : i < x.ls.length := by omega
        obtain ⟨lv', b1, b2, k', hk, b3⟩ := a6 i _ _ (List.getElem?_eq_getElem hlt) (List.getElem?_eq_getElem hx)
        have hm2 := szVs_mem (List.getElem_mem hx)
        obtain ⟨M1, M2, M3⟩ := shape_leaf (x := x.ls[i]) b2
        have he : es'[i]? = some (shape x.ls[i] lv') := by rw [w3 i (Nat.le_refl _), List.getElem?_eq_getElem hlt, b1]
        obtain ⟨id, g0, j, p1, p2⟩ := w1.view.at1 he
        have A : loadA g true 5 (.ptr id g0 j 0) = some (.agg (shape x.ls[i] lv')) := by rw [p2]; cases x.ls[i]; rfl
        have r1 := a4 i hlt
        have s1 := R.fr.sz
        have s2 := e1.1
        refine z_fadr ?_; refine z_of A4 ?_; refine z_of (p1 .i64) ?_; refine z_of A ?_
        obtain ⟨n, rfl⟩ : ∃ j, n = j + 1 := ⟨n - 1, by have := szVs_len x.ls; omega⟩
        refine ih k' (by omega) n ((b3.kp (Kp.of_ext e1)).kp (R.kp i (Nat.le_refl _) hlt)) b2 o (by have := r1.2.1; omega) (by omega) (by omega) (by omega) fun g1 f1 o1' => ?_
        have A4' : loadA g1 false 1 (.ptr hs.sz 0 0 4) = some lv := (f1.var (R.fr.var V1 (fun q => by have := q.2; omega)) (fun q => by have := q.2; have := r1.2.1; omega)).get (shape4 x lv)
        obtain ⟨id2, gg, t1, g2, t2, t3, R'⟩ := R.step (x := .agg [.int .i64 98, .bool false, .int .i64 0, .str [], .nilSlc]) a2 hlo a4 a5 hlt (by rw [List.getElem?_eq_getElem hlt, b1]) M3 f1 o1' rfl rfl
        refine z_fadr ?_; refine z_of A4' ?_; refine z_of (show buildV [AV.int .i64 0, .bool false, .int .i64 0, .str [], .nilSlc] [(0, 1, (.int .i64 98))] = some (.agg [.int .i64 98, .bool false, .int .i64 0, .str [], .nilSlc]) from rfl) ?_; refine z_of (t1 .i64) ?_
        refine z_u t2 ?_
        refine z_of (inc64 (i := i) (by omega)) ?_
        exact ihm (i + 1) g2 (by omega) (by omega) t3 R'
      · refine z_cf (decide_eq_false (by omega)) ?_
        unfold p45_19
        obtain ⟨w, g1, b1, e2, v', g2, b2, f2, id, gg, b3, g3, b4, f3, o3⟩ := over_end w1 a2 hlo o (by omega)
        refine z_fadr ?_; refine z_of A4 ?_; refine z_of (show buildV [AV.int .i64 0, .bool false, .int .i64 0, .str [], .nilSlc] [] = some zV from rfl) ?_
        refine z_p b1 ?_
        refine z_p b2 ?_
        have A5 : loadA g2 false 1 (.ptr hs.sz 0 0 4) = some lv := ((R.fr.trans f2).var V1 (fun q => by have := q.2; omega)).get (shape4 x lv)
        refine z_fadr ?_; refine z_of A5 ?_; refine z_of (hle g2) ?_; refine z_of (show buildV [AV.int .i64 0, .bool false, .int .i64 0, .str [], .nilSlc] [(0, 1, (.int .i64 97))] = some (.agg [.int .i64 97, .bool false, .int .i64 0, .str [], .nilSlc]) from rfl) ?_
        rw [w2] at b3 b4
        refine z_of (b3 .i64) ?_
        refine z_u b4 ?_
        exact kk g3 ((Fr.of_ext e1).trans (R.fr.trans f3)) o3
end Go.Proofs.Ytbamgdknkhhikaa
namespace Go.Proofs.Ytbamgdknkhhikaa
open Go.Ab
set_option linter.unusedSimpArgs false
set_option linter.unusedVariables false
theorem c12 (k n : Nat) {hs : AHeap} {lv : AV} {lo hi : Nat} {l : List Val} {K : Kont} (OW : Ow k lo hi hs lv l) (ho : hs.Ok) (hhi : hi ≤ hs.sz) (hn : szVs l + 1 ≤ n) (hB : szVs l < 1000000000) (hL : n < lim)
    (kk : ∀ h', Fr (Inn lo hi) hs h' → h'.Ok → K (.tup []) h' = true) : callN E (n + 1) (.func 12) [lv] hs K = true := by
  have hlm : lim = 4611686018427387904 := rfl
  apply d12
  unfold s12
  obtain ⟨es, reg, a1, a2, a3, a4, a5, a6⟩ := OW.opened
  have hlo : ∀ j, inRow lv j → lo ≤ j := fun j hj => own_row a1 hj
  have hlen := szVs_len l
  suffices H : ∀ m i g, es.length - i < m → i ≤ es.length → g.Ok → Rest lo hi i es reg hs g lv → l12_4 (callN E n) n m lv (.int .i64 (i : Int)) g K = true from
    H n 0 hs (by omega) (Nat.zero_le _) ho ⟨⟨es, a1, rfl, fun _ _ => rfl⟩, Fr.refl _ _, fun j _ _ => Kp.refl _ _ _⟩
  intro m
  induction m with
  | zero => intro i g hm; omega
  | succ m ihm =>
    intro i g hm hi' o R
    obtain ⟨es', w1, w2, w3⟩ := R.own
    have hle : ∀ h', lenA h' 1 lv = some (.int .i64 (es.length : Int)) := fun h' => by rw [Own.len' w1, w2]
    unfold l12_4 b12_4
    refine z_of (hle g) ?_; refine z_lss ?_
    by_cases hlt : i < es.length
    · refine z_ct (decide_eq_true (by omega)) ?_
      have hx : i < l.length := by omega
      obtain ⟨lv', b1, b2, k', hk, b3⟩ := a6 i _ _ (List.getElem?_eq_getElem hlt) (List.getElem?_eq_getElem hx)
      have hm2 := szVs_mem (List.getElem_mem hx)
      obtain ⟨M1, M2, M3⟩ := shape_leaf (x := l[i]) b2
      have he : es'[i]? = some (shape l[i] lv') := by rw [w3 i (Nat.le_refl _), List.getElem?_eq_getElem hlt, b1]
      obtain ⟨id, g0, j, p1, p2⟩ := w1.view.at1 he
      have A : loadA g true 5 (.ptr id g0 j 0) = some (.agg (shape l[i] lv')) := by rw [p2]; cases l[i]; rfl
      have r1 := a4 i hlt
      have s1 := R.fr.sz
      refine z_of (p1 .i64) ?_; refine z_of A ?_
      obtain ⟨n, rfl⟩ : ∃ j, n = j + 1 := ⟨n - 1, by omega⟩
      refine c45 k' n (b3.kp (R.kp i (Nat.le_refl _) hlt)) b2 o (by have := r1.2.1; omega) (by omega) (by omega) (by omega) fun g1 f1 o1' => ?_
      obtain ⟨id2, gg, t1, g2, t2, t3, R'⟩ := R.step (x := .agg [.int .i64 98, .bool false, .int .i64 0, .str [111, 118, 101, 114], .nilSlc]) a2 hlo a4 a5 hlt (by rw [List.getElem?_eq_getElem hlt, b1]) M3 f1 o1' rfl rfl
      refine z_of (show buildV [AV.int .i64 0, .bool false, .int .i64 0, .str [], .nilSlc] [(0, 1, (.int .i64 98)), (3, 1, (.str [111, 118, 101, 114]))] = some (.agg [.int .i64 98, .bool false, .int .i64 0, .str [111, 118, 101, 114], .nilSlc]) from rfl) ?_; refine z_of (t1 .i64) ?_
      refine z_u t2 ?_
      refine z_of (inc64 (i := i) (by omega)) ?_
      exact ihm (i + 1) g2 (by omega) (by omega) t3 R'
    · refine z_cf (decide_eq_false (by omega)) ?_
      obtain ⟨w, g1, b1, e2, v', g2, b2, f2, id, gg, b3, g3, b4, f3, o3⟩ := over_end w1 a2 hlo o (by omega)
      unfold p12_17
      refine z_of (show buildV [AV.int .i64 0, .bool false, .int .i64 0, .str [], .nilSlc] [] = some zV from rfl) ?_
      refine z_p b1 ?_
      refine z_p b2 ?_
      refine z_of (hle g2) ?_; refine z_of (show buildV [AV.int .i64 0, .bool false, .int .i64 0, .str [], .nilSlc] [(0, 1, (.int .i64 97))] = some (.agg [.int .i64 97, .bool false, .int .i64 0, .str [], .nilSlc]) from rfl) ?_
      rw [w2] at b3 b4
      refine z_of (b3 .i64) ?_
      refine z_u b4 ?_
      exact kk g3 (R.fr.trans f3) o3
end Go.Proofs.Ytbamgdknkhhikaa
namespace Go.Proofs.Ytbamgdknkhhikaa
open Go.Ab
set_option linter.unusedSimpArgs false
set_option linter.unusedVariables false
theorem emod_mul' (x : Int) {a b : Int} (ha : 0 ≤ a) : x % (a * b) = x % a + a * (x / a % b) := by
  have h1 := Int.emod_def x (a * b)
  have h2 := Int.emod_def x a
  have h3 := Int.emod_def (x / a) b
  have h4 : x / a / b = x / (a * b) := Int.ediv_ediv_of_nonneg ha
  rw [h4] at h3
  rw [h1, h2, h3, Int.mul_sub, Int.mul_assoc]
  omega
theorem bigB_inj : ∀ (w : Nat) {x y : Int}, bigB x w = bigB y w → x % 2 ^ (8 * w) = y % 2 ^ (8 * w)
  | 0, x, y, _ => by simp
  | w + 1, x, y, h => by
    simp only [bigB, List.cons.injEq] at h
    have ih := bigB_inj w h.2
    have p : (0 : Int) ≤ 2 ^ (8 * w) := Int.pow_nonneg (by decide)
    have e : (2 : Int) ^ (8 * (w + 1)) = 2 ^ (8 * w) * 256 := by rw [Nat.mul_succ, Int.pow_add]; rfl
    have b := h.1
    unfold byA at b
    rw [Int.fdiv_eq_ediv_of_nonneg _ p, Int.fdiv_eq_ediv_of_nonneg _ p] at b
    have b' : x / 2 ^ (8 * w) % 256 = y / 2 ^ (8 * w) % 256 := by omega
    rw [e, emod_mul' x p, emod_mul' y p, ih, b']
theorem wrapu (n : Int) : wrapA .u64 n = n % 18446744073709551616 := by
  rw [wrapA_eq]; simp [IntKind.wrap, IntKind.bits, IntKind.signed]
theorem big_app {w : Nat} {x y : Int} {r r' : List Nat} (h : bigB x w ++ r = bigB y w ++ r') : x % 2 ^ (8 * w) = y % 2 ^ (8 * w) ∧ r = r' := by
  obtain ⟨h1, h2⟩ := List.append_inj h (by rw [bigB_len, bigB_len])
  exact ⟨bigB_inj w h1, h2⟩
theorem big64 {x y : Int} {r r' : List Nat} (h : bigB x 8 ++ r = bigB y 8 ++ r') (hx : rng x) (hy : rng y) : x = y ∧ r = r' := by
  obtain ⟨h1, h2⟩ := big_app h
  have h1 : x % 18446744073709551616 = y % 18446744073709551616 := h1
  unfold rng at hx hy
  exact ⟨by omega, h2⟩
theorem ck_cases {k : Nat} {kd n : Int} {b : Bool} {t : List Nat} {l : List Val} (h : ckV k (.mk kd b n t l) = true) :
    (0 ≤ kd ∧ kd ≤ 5) ∧ (kd ≠ 1 → b = false) ∧ (kd ≠ 2 → kd ≠ 5 → n = 0) ∧ (kd ≠ 3 → t = []) ∧ (kd ≠ 4 → l = []) ∧ t.length ≤ 65536 ∧ l.length ≤ 4096 ∧ (kd = 4 → ∃ j, k = j + 1 ∧ ∀ y ∈ l, ckV j y = true) := by
  have leaf : leafOk kd b n t l.length = true → kd ≠ 4 ∧ (0 ≤ kd ∧ kd ≤ 5) ∧ (kd ≠ 1 → b = false) ∧ (kd ≠ 2 → kd ≠ 5 → n = 0) ∧ (kd ≠ 3 → t = []) ∧ l = [] ∧ t.length ≤ 65536 := by
    intro h
    unfold leafOk at h
    split at h
    · simp at h; obtain ⟨⟨⟨h1, h2⟩, h3⟩, h4⟩ := h; subst h3; subst h4; refine ⟨by omega, by omega, fun _ => h1, fun _ _ => h2, fun _ => rfl, rfl, by simp⟩
    · split at h
      · simp at h; obtain ⟨⟨h2, h3⟩, h4⟩ := h; subst h3; subst h4; refine ⟨by omega, by omega, fun q => by omega, fun _ _ => h2, fun _ => rfl, rfl, by simp⟩
      · split at h
        · simp at h; obtain ⟨⟨h2, h3⟩, h4⟩ := h; subst h3; subst h4; refine ⟨by omega, by omega, fun _ => h2, fun q => by omega, fun _ => rfl, rfl, by simp⟩
        · split at h
          · simp at h; obtain ⟨⟨⟨h1, h2⟩, h3⟩, h4⟩ := h; subst h3; refine ⟨by omega, by omega, fun _ => h1, fun _ _ => h2, fun q => by omega, rfl, h4⟩
          · split at h
            · simp at h; obtain ⟨⟨⟨h1, h2⟩, h3⟩, h4⟩ := h; subst h2; subst h3; refine ⟨by omega, by omega, fun _ => h1, fun q q' => by omega, fun _ => rfl, rfl, by simp⟩
            · cases h
  have fin : leafOk kd b n t l.length = true → (0 ≤ kd ∧ kd ≤ 5) ∧ (kd ≠ 1 → b = false) ∧ (kd ≠ 2 → kd ≠ 5 → n = 0) ∧ (kd ≠ 3 → t = []) ∧ (kd ≠ 4 → l = []) ∧ t.length ≤ 65536 ∧ l.length ≤ 4096 ∧ (kd = 4 → ∃ j, k = j + 1 ∧ ∀ y ∈ l, ckV j y = true) := fun h => by
    obtain ⟨g1, g2, g3, g4, g5, g6, g7⟩ := leaf h
    subst g6
    exact ⟨g2, g3, g4, g5, fun _ => rfl, g7, by simp, fun q => absurd q g1⟩
  cases k with
  | zero => exact fin h
  | succ k =>
    simp only [ckV] at h
    split at h
    · rename_i e
      simp only [Bool.and_eq_true, decide_eq_true_eq, Bool.not_eq_true', List.all_eq_true] at h
      obtain ⟨⟨⟨⟨h1, h2⟩, h3⟩, h4⟩, h5⟩ := h
      subst h3
      exact ⟨by omega, fun _ => h1, fun _ _ => h2, fun _ => rfl, fun q => absurd e q, by simp, h4, fun _ => ⟨k, rfl, h5⟩⟩
    · exact fin h
def InjV (k : Nat) : Prop := ∀ {x x' : Val} {r r' : List Nat} {h h' : AHeap} {a a' : List AV}, RV h a x → RV h' a' x' → ckV k x = true → ckV k x' = true → encV x ++ r = encV x' ++ r' → x = x' ∧ r = r'
theorem encVs_inj {k : Nat} (P : InjV k) : ∀ {l l' : List Val} {r r' : List Nat} {h h' : AHeap} {es es' : List (List AV)}, All2 (RV h) es l → All2 (RV h') es' l' → (∀ y ∈ l, ckV k y = true) → (∀ y ∈ l', ckV k y = true) → l.length = l'.length → encVs l ++ r = encVs l' ++ r' → l = l' ∧ r = r'
  | [], [], r, r', h, h', es, es', _, _, _, _, _, e => ⟨rfl, e⟩
  | [], _ :: _, r, r', h, h', es, es', _, _, _, _, hl, e => by simp at hl
  | _ :: _, [], r, r', h, h', es, es', _, _, _, _, hl, e => by simp at hl
  | x :: l, x' :: l', r, r', h, h', _, _, .cons R A, .cons R' A', c, c', hl, e => by
    simp only [encVs, List.append_assoc] at e
    obtain ⟨e1, e2⟩ := P R R' (c x List.mem_cons_self) (c' x' List.mem_cons_self) e
    obtain ⟨e3, e4⟩ := encVs_inj P A A' (fun y hy => c y (List.mem_cons_of_mem _ hy)) (fun y hy => c' y (List.mem_cons_of_mem _ hy)) (by simpa using hl) e2
    exact ⟨by rw [e1, e3], e4⟩
theorem encV_inj : ∀ (k : Nat), InjV k := by
  intro k
  induction k using Nat.strongRecOn with
  | ind k ih =>
    intro x x' r r' h h' a a' R R' c c' e
    obtain ⟨kd, b, n, t, l⟩ := x
    obtain ⟨kd', b', n', t', l'⟩ := x'
    obtain ⟨lv, _, ⟨es, _, A⟩, hn, _, _⟩ := R.cells
    obtain ⟨lv', _, ⟨es', _, A'⟩, hn', _, _⟩ := R'.cells
    obtain ⟨g0, g1, g2, g3, g4, g5, g6, g7⟩ := ck_cases c
    obtain ⟨f0, f1, f2, f3, f4, f5, f6, f7⟩ := ck_cases c'
    simp only [encV, List.cons_append, List.cons.injEq] at e
    obtain ⟨e0, e⟩ := e
    have hk : kd = kd' := by omega
    subst hk
    clear e0
    by_cases k1 : kd = 1
    · rw [if_pos k1, if_pos k1] at e
      have q1 := g2 (by omega) (by omega); have q2 := f2 (by omega) (by omega)
      have q3 := g3 (by omega); have q4 := f3 (by omega)
      have q5 := g4 (by omega); have q6 := f4 (by omega)
      simp only [List.cons_append, List.nil_append, List.cons.injEq] at e
      have hb : b = b' := by cases b <;> cases b' <;> simp at e <;> rfl
      exact ⟨by rw [q1, q2, q3, q4, q5, q6, hb], e.2⟩
    rw [if_neg k1, if_neg k1] at e
    have qb := (g1 k1).trans (f1 k1).symm
    by_cases k2 : kd = 2 ∨ kd = 5
    · rw [if_pos k2, if_pos k2] at e
      have q3 := g3 (by omega); have q4 := f3 (by omega)
      have q5 := g4 (by omega); have q6 := f4 (by omega)
      obtain ⟨e1, e2⟩ := big_app e
      have e1 : wrapA .u64 n % 18446744073709551616 = wrapA .u64 n' % 18446744073709551616 := e1
      rw [wrapu, wrapu] at e1
      have hnn : n = n' := by omega
      exact ⟨by rw [qb, hnn, q3, q4, q5, q6], e2⟩
    rw [if_neg k2, if_neg k2] at e
    have q1 := g2 (by omega) (by omega); have q2 := f2 (by omega) (by omega)
    by_cases k3 : kd = 3
    · rw [if_pos k3, if_pos k3, List.append_assoc, List.append_assoc] at e
      have q5 := g4 (by omega); have q6 := f4 (by omega)
      obtain ⟨e1, e2⟩ := big_app e
      have e1 : wrapA .u64 (t.length : Int) % 4294967296 = wrapA .u64 (t'.length : Int) % 4294967296 := e1
      rw [wrapu, wrapu] at e1
      obtain ⟨e3, e4⟩ := List.append_inj e2 (by omega)
      exact ⟨by rw [qb, q1, q2, e3, q5, q6], e4⟩
    rw [if_neg k3, if_neg k3] at e
    have q3 := g3 k3; have q4 := f3 k3
    by_cases k4 : kd = 4
    · rw [if_pos k4, if_pos k4, List.append_assoc, List.append_assoc] at e
      obtain ⟨e1, e2⟩ := big_app e
      have e1 : wrapA .u64 (l.length : Int) % 4294967296 = wrapA .u64 (l'.length : Int) % 4294967296 := e1
      rw [wrapu, wrapu] at e1
      obtain ⟨j, rfl, u1⟩ := g7 k4
      obtain ⟨j', hj, u2⟩ := f7 k4
      cases hj
      obtain ⟨e3, e4⟩ := encVs_inj (ih j (Nat.lt_succ_self j)) A A' u1 u2 (by omega) e2
      exact ⟨by rw [qb, q1, q2, q3, q4, e3], e4⟩
    · rw [if_neg k4, if_neg k4] at e
      exact ⟨by rw [qb, q1, q2, q3, q4, g4 k4, f4 k4], e⟩
theorem badV_false {l : List Val} : badV l = false ↔ ∀ y ∈ l, ckV 30 y = true := by
  unfold badV; rw [List.any_eq_false]; simp
theorem spV_enc : ∀ {l : List Val}, (∀ y ∈ l, ckV 30 y = true) → spV l = encVs l
  | [], _ => rfl
  | x :: l, h => by
    have : spV (x :: l) = spX x ++ spV l := by simp [spV]
    rw [this, spV_enc fun y hy => h y (List.mem_cons_of_mem _ hy)]
    unfold spX; rw [if_pos (h x List.mem_cons_self)]; rfl
theorem encVs_inj0 : ∀ {l l' : List Val} {h h' : AHeap} {es es' : List (List AV)}, All2 (RV h) es l → All2 (RV h') es' l' → (∀ y ∈ l, ckV 30 y = true) → (∀ y ∈ l', ckV 30 y = true) → encVs l = encVs l' → l = l'
  | [], [], h, h', es, es', _, _, _, _, e => rfl
  | [], .mk k b n t l :: _, h, h', es, es', _, _, _, _, e => by simp [encVs, encV] at e
  | .mk k b n t l :: _, [], h, h', es, es', _, _, _, _, e => by simp [encVs, encV] at e
  | x :: l, x' :: l', h, h', _, _, .cons R A, .cons R' A', c, c', e => by
    simp only [encVs] at e
    obtain ⟨e1, e2⟩ := encV_inj 30 R R' (c x List.mem_cons_self) (c' x' List.mem_cons_self) e
    rw [e1, encVs_inj0 A A' (fun y hy => c y (List.mem_cons_of_mem _ hy)) (fun y hy => c' y (List.mem_cons_of_mem _ hy)) e2]
theorem spV_inj {h h' : AHeap} {v v' : AV} {l l' : List Val} (V : VV h v l) (V' : VV h' v' l') (b : badV l = false) (b' : badV l' = false) (e : spV l = spV l') : l = l' := by
  rw [badV_false] at b b'
  rw [spV_enc b, spV_enc b'] at e
  obtain ⟨es, _, A⟩ := V
  obtain ⟨es', _, A'⟩ := V'
  exact encVs_inj0 A A' b b' e
theorem kyE_inj {h h' : AHeap} {a a' : List AV} {x x' : Elm} {r r' : List Nat} (R : REl h a x) (R' : REl h' a' x') (b : badV x.vs = false) (b' : badV x'.vs = false) (hl : x.vs.length < 1000000000) (hl' : x'.vs.length < 1000000000) (e : kyE x ++ r = kyE x' ++ r') : x = x' ∧ r = r' := by
  obtain ⟨vv, _, ⟨es, _, A⟩, p1, p2⟩ := R
  obtain ⟨vv', _, ⟨es', _, A'⟩, p1', p2'⟩ := R'
  rw [badV_false] at b b'
  unfold kyE at e
  rw [spV_enc b, spV_enc b'] at e
  simp only [List.append_assoc] at e
  obtain ⟨e1, e⟩ := big64 e p1 p1'
  obtain ⟨e2, e⟩ := big64 e p2 p2'
  obtain ⟨e3, e⟩ := big64 e (by unfold rng; omega) (by unfold rng; omega)
  obtain ⟨e4, ef⟩ := encVs_inj (encV_inj 30) A A' b b' (by omega) e
  obtain ⟨d, s, vs⟩ := x
  obtain ⟨d', s', vs'⟩ := x'
  dsimp only at e1 e2 e4
  exact ⟨by rw [e1, e2, e4], ef⟩
theorem badE_cons {x : Elm} {l : List Elm} (h : badE (x :: l) = false) : badV x.vs = false ∧ badE l = false := by
  simpa [badE] using h
theorem kyM_inj0 : ∀ {l l' : List Elm} {h h' : AHeap} {es es' : List (List AV)}, All2 (REl h) es l → All2 (REl h') es' l' → badE l = false → badE l' = false → (∀ x ∈ l, x.vs.length < 1000000000) → (∀ x ∈ l', x.vs.length < 1000000000) → kyM l = kyM l' → l = l'
  | [], [], h, h', es, es', _, _, _, _, _, _, e => rfl
  | [], x :: _, h, h', es, es', _, _, _, _, _, _, e => by
    have := congrArg List.length e
    simp [kyM, kyE, bigB_len] at this
    omega
  | x :: _, [], h, h', es, es', _, _, _, _, _, _, e => by
    have := congrArg List.length e
    simp [kyM, kyE, bigB_len] at this
  | x :: l, x' :: l', h, h', _, _, .cons R A, .cons R' A', c, c', n, n', e => by
    have u : ∀ (x : Elm) l, kyM (x :: l) = kyE x ++ kyM l := fun x l => by simp [kyM]
    rw [u, u] at e
    obtain ⟨e1, e2⟩ := kyE_inj R R' (badE_cons c).1 (badE_cons c').1 (n x List.mem_cons_self) (n' x' List.mem_cons_self) e
    rw [e1, kyM_inj0 A A' (badE_cons c).2 (badE_cons c').2 (fun y hy => n y (List.mem_cons_of_mem _ hy)) (fun y hy => n' y (List.mem_cons_of_mem _ hy)) e2]
theorem kyM_inj {h h' : AHeap} {v v' : AV} {l l' : List Elm} (V : EV h v l) (V' : EV h' v' l') (b : badE l = false) (b' : badE l' = false) (n : szL szEl l < 1000000000) (n' : szL szEl l' < 1000000000) (e : kyM l = kyM l') : l = l' := by
  obtain ⟨es, _, A⟩ := V
  obtain ⟨es', _, A'⟩ := V'
  have len : ∀ {l : List Elm}, szL szEl l < 1000000000 → ∀ x ∈ l, x.vs.length < 1000000000 := fun n x hx => by
    have h1 := szL_mem (sz := szEl) hx
    have h2 := szVs_len x.vs
    have h3 : szEl x = szVs x.vs + 1 := rfl
    omega
  exact kyM_inj0 A A' b b' (len n) (len n') e
end Go.Proofs.Ytbamgdknkhhikaa
namespace Go.Proofs.Ytbamgdknkhhikaa
open Go.Ab
set_option linter.unusedSimpArgs false
set_option linter.unusedVariables false
structure JE where
  cls : Str
  vs : List Val
  m : Mch
structure JD where
  p : Nat
  a : AV
  b : AV
  c : AV
  L : List JE
  H : List JE
  M : List Mch
def DV (σ : Nat → Tag) (h : AHeap) (v : AV) (l : List Val) : Prop := ∃ lo hi, Gv l h lo hi v ∧ v.leaf = true ∧ hi ≤ h.sz ∧ ∀ j, lo ≤ j → j < hi → σ j = .out
def RJ (B : Nat) (σ : Nat → Tag) (h0 h : AHeap) : List AV → JE → Prop := fun e x => ∃ vv ev nv, e = [.str x.cls, vv, .int .i64 x.m.core, ev, nv] ∧ DV σ h vv x.vs ∧ EV h0 ev x.m.els ∧ nv.leaf = true ∧ szVs x.vs ≤ B ∧ szL szEl x.m.els ≤ B
def RM (B : Nat) (h0 : AHeap) : List AV → Mch → Prop := fun e m => ∃ ev nv, e = [.int .i64 m.core, ev, nv] ∧ EV h0 ev m.els ∧ nv.leaf = true ∧ szL szEl m.els ≤ B
def Rw {α : Type} (b n : Nat) (R : List AV → α → Prop) (h : AHeap) (v : AV) (l : List α) : Prop := ∃ es, Own b h n v es ∧ All2 R es l
section
variable {B : Nat} {σ σ' : Nat → Tag} {h0 h h' : AHeap} {X : Nat → Prop} {v : AV}
theorem DV.fr {l : List Val} (D : DV σ h v l) (f : Fr X h h') (hX : ∀ j, X j → σ j ≠ .out) (ht : ∀ j, j < h.sz → σ' j = σ j) : DV σ' h' v l := by
  obtain ⟨lo, hi, q1, q2, q3, q4⟩ := D
  exact ⟨lo, hi, q1.fr (Kp.of_fr f fun j x ⟨a, b⟩ => hX j x (q4 j a b)), q2, Nat.le_trans q3 f.sz, fun j a b => by rw [ht j (by omega)]; exact q4 j a b⟩
theorem DV.now {l : List Val} (D : DV σ h v l) : VV h v l := by obtain ⟨lo, hi, q1, _⟩ := D; exact q1.now
theorem DV.leaf {l : List Val} (D : DV σ h v l) : v.leaf = true := by obtain ⟨lo, hi, _, q, _⟩ := D; exact q
theorem RJ.fr {e : List AV} {x : JE} (R : RJ B σ h0 h e x) (f : Fr X h h') (hX : ∀ j, X j → σ j ≠ .out) (ht : ∀ j, j < h.sz → σ' j = σ j) : RJ B σ' h0 h' e x := by
  obtain ⟨vv, ev, nv, q1, q2, q3⟩ := R
  exact ⟨vv, ev, nv, q1, q2.fr f hX ht, q3⟩
theorem RJ.cells {e : List AV} {x : JE} (R : RJ B σ h0 h e x) : e.length = 5 ∧ allLeaf e = true := by
  obtain ⟨vv, ev, nv, rfl, q2, q3, q4, _⟩ := R
  exact ⟨rfl, by simp only [allLeaf, q2.leaf, q3.leaf, q4]; rfl⟩
theorem RM.cells {e : List AV} {x : Mch} (R : RM B h0 e x) : e.length = 3 ∧ allLeaf e = true := by
  obtain ⟨ev, nv, rfl, q3, q4, _⟩ := R
  exact ⟨rfl, by simp only [allLeaf, q3.leaf, q4]; rfl⟩
variable {α : Type} {b n : Nat} {R S : List AV → α → Prop} {l : List α}
theorem Rw.nil : Rw b n R h .nilSlc ([] : List α) := ⟨[], Own.nil _ _ _, .nil⟩
theorem Rw.mono (W : Rw b n R h v l) (k : ∀ e x, R e x → S e x) : Rw b n S h v l := let ⟨es, o, a⟩ := W; ⟨es, o, a.mono k⟩
theorem Rw.ext (W : Rw b n R h v l) (e : Ext h h') : Rw b n R h' v l := let ⟨es, o, a⟩ := W; ⟨es, o.ext e, a⟩
theorem Rw.fr (W : Rw b n R h v l) (f : Fr X h h') (d : ∀ j, inRow v j → ¬ X j) : Rw b n R h' v l := let ⟨es, o, a⟩ := W; ⟨es, Own.fr o f d, a⟩
theorem Rw.len (W : Rw b n R h v l) (h' : AHeap) : lenA h' 1 v = some (.int .i64 (l.length : Int)) := by
  obtain ⟨es, o, a⟩ := W; rw [Own.len' o, a.length]
theorem Rw.leaf (W : Rw b n R h v l) : v.leaf = true := by obtain ⟨es, o, a⟩ := W; exact o.view.leaf
theorem Rw.lt (W : Rw b n R h v l) (o : h.Ok) {j : Nat} (i : inRow v j) : j < h.sz := by obtain ⟨es, o', a⟩ := W; exact own_lt (own_low o') o i
theorem Rw.row (W : Rw b n R h v l) {j : Nat} (i : inRow v j) : b ≤ j := by obtain ⟨es, o', a⟩ := W; exact own_row o' i
theorem Rw.down {b' : Nat} (W : Rw b n R h v l) (q : b' ≤ b) : Rw b' n R h v l := by obtain ⟨es, o', a⟩ := W; exact ⟨es, Own.low o' q, a⟩
theorem Rw.low (W : Rw b n R h v l) : Rw 0 n R h v l := by obtain ⟨es, o', a⟩ := W; exact ⟨es, own_low o', a⟩
theorem Rw.at (W : Rw b n R h v l) {i : Nat} {x : α} (hi : l[i]? = some x) : ∃ id g j e, (∀ h', Ext h h' → (∀ k, iadrA h' n v (.int k (i : Int)) = some (.ptr id g j 0)) ∧ ∀ ag off m, loadA h' ag m (.ptr id g j off) = partA ag off m e) ∧ R e x := by
  obtain ⟨es, o, a⟩ := W
  obtain ⟨e, he, hr⟩ := a.get hi
  obtain ⟨id, g, j, u⟩ := o.view.atE he
  exact ⟨id, g, j, e, u, hr⟩
end
theorem Rw.push {α : Type} {n bytes : Nat} {R : List AV → α → Prop} {hs h : AHeap} {out : AV} {l : List α} {x : α} {z e : List AV} {K : Kont} (W : Rw hs.sz n R h out l) (k : hs.Ok) (o : h.Ok) (e0 : Ext hs h) (hn : 0 < n) (hz : z.length = n) (hz2 : allLeaf z = true) (he : e.length = n) (he2 : allLeaf e = true) (hx : R e x) (hl : l.length < 1000000) (hb : bytes ≤ 1000) (hn2 : n ≤ 1000)
    (kk : ∀ h' out', Rw hs.sz n R h' out' (l ++ [x]) → Ext hs h' → h'.Ok → K out' h' = true) : optP (bsliceV h 1 n z [(0, .agg e)]) (fun w h => optP (appendA h n bytes out w) K) = true := by
  have hmo : most = 1099511627776 := rfl
  obtain ⟨es, w, a⟩ := W
  have hal := a.length
  obtain ⟨w', h1, b1, b2, e1, o1, z1, _⟩ := bslice1_v (sz := n) (z := z) (v := .agg e) o hz hn (by omega) hz2 he he2
  have b2 : View h1 n w' [e] := b2
  refine z_p b1 ?_
  have e01 := ext_two e0 e1
  obtain ⟨v', h', a1, a2, a3, a4, a5, a6⟩ := own_app2 (bytes := bytes) (w.ext e1) hn e01.1 o1 k e01 (Nat.le_refl _) b2.src (by
    rw [hal]; simp only [List.length_cons, List.length_nil]
    have : (l.length + (0 + 1)) * bytes ≤ 1000000 * 1000 := Nat.mul_le_mul (by omega) hb
    omega) (by rw [hal]; simp; omega)
  refine z_p a1 ?_
  exact kk h' v' ⟨_, a2, a.append (.cons hx .nil)⟩ a4 a3
structure JO (B : Nat) (σ : Nat → Tag) (h0 h : AHeap) (J : JD) : Prop where
  ok : h.Ok
  k0 : h0.Ok
  e : Ext h0 h
  t0 : ∀ j, j < h0.sz → σ j = .out
  hi : ∀ j, h.sz ≤ j → σ j = .out
  tp : σ J.p = .jus
  var : Var h J.p [J.a, J.b, J.c]
  L : Rw 0 5 (RJ B σ h0 h) h J.a J.L
  H : Rw 0 5 (RJ B σ h0 h) h J.b J.H
  M : Rw 0 3 (RM B h0) h J.c J.M
  ta : ∀ j, inRow J.a j → σ j = .jus ∧ ¬ inRow J.b j ∧ ¬ inRow J.c j ∧ j ≠ J.p
  tb : ∀ j, inRow J.b j → σ j = .jus ∧ ¬ inRow J.c j ∧ j ≠ J.p
  tc : ∀ j, inRow J.c j → σ j = .jus ∧ j ≠ J.p
structure JStep (σ σ' : Nat → Tag) (h h' : AHeap) : Prop where
  ok : h'.Ok
  fr : Fr (fun j => σ j = .jus) h h'
  old : ∀ j, j < h.sz → σ' j = σ j
  new : ∀ j, h.sz ≤ j → σ' j = .out ∨ (σ' j = .jus ∧ j < h'.sz)
section
variable {B : Nat} {σ σ' : Nat → Tag} {h0 h h' : AHeap} {X : Nat → Prop} {J : JD}
theorem JO.fr (O : JO B σ h0 h J) (f : Fr X h h') (o : h'.Ok) (hX : ∀ j, X j → σ j ≠ .out ∧ σ j ≠ .jus) (ht : ∀ j, j < h.sz → σ' j = σ j) (hh : ∀ j, h'.sz ≤ j → σ' j = .out) : JO B σ' h0 h' J := by
  have low : ∀ j, X j → h0.sz ≤ j := fun j x => by
    by_cases q : j < h0.sz
    · exact absurd (O.t0 j q) (hX j x).1
    · omega
  have r : ∀ e x, RJ B σ h0 h e x → RJ B σ' h0 h' e x := fun e x R => R.fr f (fun j x => (hX j x).1) ht
  have la : ∀ j, inRow J.a j → j < h.sz := fun j hj => O.L.lt O.ok hj
  have lb : ∀ j, inRow J.b j → j < h.sz := fun j hj => O.H.lt O.ok hj
  have lc : ∀ j, inRow J.c j → j < h.sz := fun j hj => O.M.lt O.ok hj
  have lp := O.var.lt O.ok
  refine ⟨o, O.k0, f.ext O.e O.k0 low, fun j hj => ?_, hh, ?_, f.var O.var fun x => (hX _ x).2 O.tp, (O.L.fr f fun j hj x => (hX j x).2 (O.ta j hj).1).mono r, (O.H.fr f fun j hj x => (hX j x).2 (O.tb j hj).1).mono r, O.M.fr f fun j hj x => (hX j x).2 (O.tc j hj).1, fun j hj => ?_, fun j hj => ?_, fun j hj => ?_⟩
  · rw [ht j (by have := O.e.1; omega)]; exact O.t0 j hj
  · rw [ht _ lp]; exact O.tp
  · rw [ht j (la j hj)]; exact O.ta j hj
  · rw [ht j (lb j hj)]; exact O.tb j hj
  · rw [ht j (lc j hj)]; exact O.tc j hj
theorem JO.ext (O : JO B σ h0 h J) (e : Ext h h') (o : h'.Ok) : JO B σ h0 h' J := O.fr (Fr.of_ext (X := fun _ => False) e) o (fun _ x => x.elim) (fun _ _ => rfl) fun j hj => O.hi j (Nat.le_trans e.1 hj)
theorem JO.step (O : JO B σ h0 h J) (e : Ext h h') (o : h'.Ok) : JStep σ σ h h' := ⟨o, Fr.of_ext e, fun _ _ => rfl, fun j hj => .inl (O.hi j hj)⟩
theorem JO.l0 (O : JO B σ h0 h J) : loadA h false 1 (.ptr J.p 0 0 0) = some J.a := O.var.get rfl
theorem JO.l1 (O : JO B σ h0 h J) : loadA h false 1 (.ptr J.p 0 0 1) = some J.b := O.var.get rfl
theorem JO.l2 (O : JO B σ h0 h J) : loadA h false 1 (.ptr J.p 0 0 2) = some J.c := O.var.get rfl
theorem JStep.refl (o : h.Ok) (hi : ∀ j, h.sz ≤ j → σ j = .out) : JStep σ σ h h := ⟨o, Fr.refl _ _, fun _ _ => rfl, fun j hj => .inl (hi j hj)⟩
theorem JStep.trans {σ'' : Nat → Tag} {h'' : AHeap} (o : h.Ok) (a : JStep σ σ' h h') (b : JStep σ' σ'' h' h'') : JStep σ σ'' h h'' := by
  refine ⟨b.ok, ?_, fun j hj => ?_, fun j hj => ?_⟩
  · refine fr_acc o a.fr b.fr fun j hj => ?_
    by_cases q : j < h.sz
    · left; rw [← a.old j q]; exact hj
    · right; omega
  · have := a.fr.sz; rw [b.old j (by omega), a.old j hj]
  · by_cases q : j < h'.sz
    · rw [b.old j q]
      rcases a.new j hj with e | e
      · exact .inl e
      · exact .inr ⟨e.1, by have := b.fr.sz; omega⟩
    · exact b.new j (by omega)
noncomputable def tagJ (σ : Nat → Tag) (a b c : AV) : Nat → Tag := fun j => open Classical in if inRow a j ∨ inRow b j ∨ inRow c j then .jus else σ j
theorem tagJ_in {a b c : AV} {j : Nat} (i : inRow a j ∨ inRow b j ∨ inRow c j) : tagJ σ a b c j = .jus := by unfold tagJ; rw [if_pos i]
theorem tagJ_out {a b c : AV} {j : Nat} (i : ¬ (inRow a j ∨ inRow b j ∨ inRow c j)) : tagJ σ a b c j = σ j := by unfold tagJ; rw [if_neg i]
theorem JO.put (O : JO B σ h0 h J) {h1 : AHeap} {a b c : AV} {L H : List JE} {M : List Mch} (f : Fr (fun j => σ j = .jus) h h1) (o : h1.Ok) (V : Var h1 J.p [a, b, c])
    (la : Rw 0 5 (RJ B (tagJ σ a b c) h0 h1) h1 a L) (lb : Rw 0 5 (RJ B (tagJ σ a b c) h0 h1) h1 b H) (lc : Rw 0 3 (RM B h0) h1 c M)
    (na : ∀ j, inRow a j → σ j = .jus ∨ h.sz ≤ j) (nb : ∀ j, inRow b j → σ j = .jus ∨ h.sz ≤ j) (nc : ∀ j, inRow c j → σ j = .jus ∨ h.sz ≤ j)
    (da : ∀ j, inRow a j → ¬ inRow b j ∧ ¬ inRow c j ∧ j ≠ J.p) (db : ∀ j, inRow b j → ¬ inRow c j ∧ j ≠ J.p) (dc : ∀ j, inRow c j → j ≠ J.p) :
    JO B (tagJ σ a b c) h0 h1 ⟨J.p, a, b, c, L, H, M⟩ ∧ JStep σ (tagJ σ a b c) h h1 := by
  have old : ∀ j, j < h.sz → tagJ σ a b c j = σ j := fun j hj => by
    by_cases q : inRow a j ∨ inRow b j ∨ inRow c j
    · rw [tagJ_in q]
      rcases q with q | q | q
      · rcases na j q with e | e; exact e.symm; omega
      · rcases nb j q with e | e; exact e.symm; omega
      · rcases nc j q with e | e; exact e.symm; omega
    · exact tagJ_out q
  have lt : ∀ j, (inRow a j ∨ inRow b j ∨ inRow c j) → j < h1.sz := fun j q => by
    rcases q with q | q | q
    · exact la.lt o q
    · exact lb.lt o q
    · exact lc.lt o q
  have low : ∀ j, σ j = .jus → h0.sz ≤ j := fun j x => by
    by_cases q : j < h0.sz
    · rw [O.t0 j q] at x; cases x
    · omega
  refine ⟨⟨o, O.k0, f.ext O.e O.k0 low, fun j hj => ?_, fun j hj => ?_, ?_, V, la, lb, lc, fun j hj => ⟨tagJ_in (.inl hj), da j hj⟩, fun j hj => ⟨tagJ_in (.inr (.inl hj)), db j hj⟩, fun j hj => ⟨tagJ_in (.inr (.inr hj)), dc j hj⟩⟩, ⟨o, f, old, fun j hj => ?_⟩⟩
  · rw [old j (by have := O.e.1; omega)]; exact O.t0 j hj
  · rw [tagJ_out fun q => by have := lt j q; omega]
    exact O.hi j (Nat.le_trans f.sz hj)
  · show tagJ σ a b c J.p = .jus
    rw [old _ (O.var.lt O.ok)]; exact O.tp
  · by_cases q : inRow a j ∨ inRow b j ∨ inRow c j
    · exact .inr ⟨tagJ_in q, lt j q⟩
    · rw [tagJ_out q]; exact .inl (O.hi j hj)
end
end Go.Proofs.Ytbamgdknkhhikaa
namespace Go.Proofs.Ytbamgdknkhhikaa
open Go.Ab
set_option linter.unusedSimpArgs false
set_option linter.unusedVariables false
section
variable {B : Nat} {σ : Nat → Tag} {h0 hs : AHeap} {J : JD} {n : Nat} {K : Kont}
theorem c43 {cls : Str} {v : AV} {l : List Val} (O : JO B σ h0 hs J) (V : VV hs v l) (hl : J.H.length < n) (hB : B < 1000000000) (hn : 2 * B + 4 ≤ n) (hL : n < lim)
    (kk : ∀ h z, Ext hs h → h.Ok → (z < 0 ↔ ∀ x ∈ J.H, ¬ (x.cls = cls ∧ x.vs = l)) → K (.int .i64 z) h = true) : callN E (n + 1) (.func 43) [.ptr J.p 0 0 0, .str cls, v] hs K = true := by
  have hlm : lim = 4611686018427387904 := rfl
  apply d43
  unfold s43
  suffices H : ∀ m i h, J.H.length - i < m → i ≤ J.H.length → Ext hs h → h.Ok → (∀ x ∈ J.H.take i, ¬ (x.cls = cls ∧ x.vs = l)) → l43_6 (callN E n) n m (.ptr J.p 0 0 0) (.str cls) v (.int .i64 (i : Int)) h K = true from
    H n 0 hs (by omega) (Nat.zero_le _) (Ext.refl _) O.ok (by simp)
  intro m
  induction m with
  | zero => intro i h hm; omega
  | succ m ihm =>
    intro i h hm hi e o C
    have O' := O.ext e o
    unfold l43_6 b43_6
    refine z_nil ?_; refine z_fadr ?_; refine z_of O'.l1 ?_; refine z_of (O'.H.len h) ?_; refine z_lss ?_
    by_cases hlt : i < J.H.length
    · refine z_ct (decide_eq_true (by omega)) ?_
      obtain ⟨id, g, j, ee, u, R⟩ := O'.H.at (List.getElem?_eq_getElem hlt)
      obtain ⟨p1, p2⟩ := u h (Ext.refl _)
      obtain ⟨vv, ev, nv, rfl, D, _, _, hb, _⟩ := R
      have A0 : loadA h false 1 (.ptr id g j 0) = some (.str J.H[i].cls) := by rw [p2]; rfl
      have A1 : loadA h false 1 (.ptr id g j 1) = some vv := by rw [p2]; rfl
      have t1 : J.H.take (i + 1) = J.H.take i ++ [J.H[i]] := by rw [List.take_succ_eq_append_getElem hlt]
      have next : ∀ h', Ext hs h' → h'.Ok → ¬ (J.H[i].cls = cls ∧ J.H[i].vs = l) → optB (binA .add (.int .i64 (i : Int)) (.int .i64 1)) (fun v24 => l43_6 (callN E n) n m (.ptr J.p 0 0 0) (.str cls) v v24 h' K) = true := fun h' e' o' hne => by
        refine z_of (inc64 (i := i) (by omega)) ?_
        refine ihm (i + 1) h' (by omega) (by omega) e' o' fun x hx => ?_
        rw [t1, List.mem_append, List.mem_singleton] at hx
        rcases hx with hx | rfl
        · exact C x hx
        · exact hne
      refine z_nil ?_; refine z_fadr ?_; refine z_of O'.l1 ?_; refine z_of (p1 .i64) ?_; refine z_fadr ?_; refine z_of A0 ?_; refine z_seq ?_
      by_cases c0 : J.H[i].cls = cls
      · rw [decide_eq_true c0]
        refine z_gtt ?_; refine z_some ?_; refine z_gtt ?_; refine z_nil ?_; refine z_gtt ?_; refine z_fadr ?_; refine z_gtt ?_; refine z_of O'.l1 ?_; refine z_gtt ?_; refine z_some ?_; refine z_gtt ?_; refine z_of (p1 .i64) ?_; refine z_gtt ?_; refine z_fadr ?_; refine z_gtt ?_; refine z_of A1 ?_; refine z_gtt ?_; refine z_some ?_; refine z_rtt ?_
        obtain ⟨n, rfl⟩ : ∃ j, n = j + 1 := ⟨n - 1, by omega⟩
        refine c27 B n D.now (V.ext e) o hb (by omega) (by omega) (by omega) fun h4 r e4 o4 hr => ?_
        cases r with
        | true =>
          refine z_kt ?_; refine z_cT ?_
          refine kk h4 _ (ext_two e e4) o4 ⟨fun h => by omega, fun h => absurd ⟨c0, hr.1 rfl⟩ (h _ (List.getElem_mem hlt))⟩
        | false =>
          refine z_kt ?_; refine z_cF ?_
          exact next h4 (ext_two e e4) o4 fun q => by cases hr.2 q.2
      · rw [decide_eq_false c0]
        refine z_gft ?_; refine z_gft ?_; refine z_gft ?_; refine z_gft ?_; refine z_gft ?_; refine z_gft ?_; refine z_gft ?_; refine z_gft ?_; refine z_gft ?_; refine z_rft ?_; refine z_kf ?_; refine z_cF ?_
        exact next h e o fun q => c0 q.1
    · refine z_cf (decide_eq_false (by omega)) ?_
      rw [List.take_of_length_le (by omega)] at C
      exact kk h (-1) e o ⟨fun _ => C, fun _ => by omega⟩
theorem c44 {core : Int} {ev nv : AV} {els : List Elm} (O : JO B σ h0 hs J) (V : EV hs ev els) (hnv : nv.leaf = true) (hl : J.M.length < n) (hB : B < 1000000000) (hn : 2 * B + 8 ≤ n) (hL : n < lim)
    (kk : ∀ h z, Ext hs h → h.Ok → (z < 0 ↔ ∀ x ∈ J.M, ¬ (x.core = core ∧ x.els = els)) → K (.int .i64 z) h = true) : callN E (n + 1) (.func 44) [.ptr J.p 0 0 0, .agg [.int .i64 core, ev, nv]] hs K = true := by
  have hlm : lim = 4611686018427387904 := rfl
  apply d44
  unfold s44
  obtain ⟨h1, q1, V1, e1, o1, z1⟩ := box_v (n := 3) (v := .agg [.int .i64 core, ev, nv]) O.ok rfl (by decide) (by simp only [AV.cells, allLeaf, V.leaf, hnv]; rfl)
  have V1 : Var h1 hs.sz [.int .i64 core, ev, nv] := V1
  refine z_p q1 ?_
  suffices H : ∀ m i h, J.M.length - i < m → i ≤ J.M.length → Ext h1 h → h.Ok → (∀ x ∈ J.M.take i, ¬ (x.core = core ∧ x.els = els)) → l44_6 (callN E n) n m (.ptr J.p 0 0 0) (.ptr hs.sz 0 0 0) (.int .i64 (i : Int)) h K = true from
    H n 0 h1 (by omega) (Nat.zero_le _) (Ext.refl _) o1 (by simp)
  intro m
  induction m with
  | zero => intro i h hm; omega
  | succ m ihm =>
    intro i h hm hi e o C
    have e0 := ext_two e1 e
    have O' := O.ext e0 o
    unfold l44_6 b44_6
    refine z_nil ?_; refine z_fadr ?_; refine z_of O'.l2 ?_; refine z_of (O'.M.len h) ?_; refine z_lss ?_
    by_cases hlt : i < J.M.length
    · refine z_ct (decide_eq_true (by omega)) ?_
      obtain ⟨id, g, j, ee, u, R⟩ := O'.M.at (List.getElem?_eq_getElem hlt)
      obtain ⟨p1, p2⟩ := u h (Ext.refl _)
      obtain ⟨ev', nv', rfl, D, lf, hb⟩ := R
      have A0 : loadA h true 3 (.ptr id g j 0) = some (.agg [.int .i64 J.M[i].core, ev', nv']) := by rw [p2]; rfl
      have A1 : loadA h true 3 (.ptr hs.sz 0 0 0) = some (.agg [.int .i64 core, ev, nv]) := (V1.ext e).all rfl
      have t1 : J.M.take (i + 1) = J.M.take i ++ [J.M[i]] := by rw [List.take_succ_eq_append_getElem hlt]
      refine z_nil ?_; refine z_fadr ?_; refine z_of O'.l2 ?_; refine z_of (p1 .i64) ?_; refine z_of A0 ?_; refine z_of A1 ?_
      obtain ⟨n, rfl⟩ : ∃ j, n = j + 3 := ⟨n - 3, by omega⟩
      have hlE : J.M[i].els.length ≤ szL szEl J.M[i].els := szL_length szEl_pos _
      refine c17 (n := n) (S := B) (D.ext O'.e) (V.ext e0) lf hnv o (fun e he => by have := szL_mem (sz := szEl) he; have : szEl e = szVs e.vs + 1 := rfl; omega) (by omega) (by omega) (by omega) (by omega) fun h4 r e4 o4 hr => ?_
      cases r with
      | true =>
        refine z_cT ?_
        exact kk h4 _ (ext_two e0 e4) o4 ⟨fun h => by omega, fun h => absurd (hr.1 rfl) (h _ (List.getElem_mem hlt))⟩
      | false =>
        refine z_cF ?_; refine z_of (inc64 (i := i) (by omega)) ?_
        refine ihm (i + 1) h4 (by omega) (by omega) (ext_two e e4) o4 fun x hx => ?_
        rw [t1, List.mem_append, List.mem_singleton] at hx
        rcases hx with hx | rfl
        · exact C x hx
        · exact fun q => by cases hr.2 q
    · refine z_cf (decide_eq_false (by omega)) ?_
      rw [List.take_of_length_le (by omega)] at C
      exact kk h (-1) e0 o ⟨fun _ => C, fun _ => by omega⟩
noncomputable def flt {α : Type} (p : α → Prop) (l : List α) : List α := l.filter fun x => @decide (p x) (Classical.propDecidable _)
theorem flt_take {α : Type} {p : α → Prop} {l : List α} {i : Nat} (h : i < l.length) : (p l[i] → flt p (l.take (i + 1)) = flt p (l.take i) ++ [l[i]]) ∧ (¬ p l[i] → flt p (l.take (i + 1)) = flt p (l.take i)) := by
  unfold flt
  rw [List.take_succ_eq_append_getElem h, List.filter_append]
  refine ⟨fun q => ?_, fun q => ?_⟩
  · rw [List.filter_cons_of_pos (by simpa using q)]; simp
  · rw [List.filter_cons_of_neg (by simpa using q)]; simp
theorem flt_len {α : Type} (p : α → Prop) (l : List α) : (flt p l).length ≤ l.length := List.length_filter_le _ _
theorem flt_take_le {α : Type} (p : α → Prop) (l : List α) (i : Nat) : (flt p (l.take i)).length ≤ l.length :=
  Nat.le_trans (flt_len _ _) (by rw [List.length_take]; exact Nat.min_le_right _ _)
theorem mem_flt {α : Type} {p : α → Prop} {l : List α} {x : α} : x ∈ flt p l ↔ x ∈ l ∧ p x := by
  unfold flt; rw [List.mem_filter]; simp
noncomputable def ofC (L : List JE) (cls : Str) (l : List Val) : List JE := flt (fun x => x.cls = cls ∧ x.vs = l) L
theorem ofC_take {L : List JE} {cls : Str} {l : List Val} {i : Nat} (h : i < L.length) : (L[i].cls = cls ∧ L[i].vs = l → (ofC (L.take (i + 1)) cls l).length = (ofC (L.take i) cls l).length + 1) ∧ (¬ (L[i].cls = cls ∧ L[i].vs = l) → (ofC (L.take (i + 1)) cls l).length = (ofC (L.take i) cls l).length) := by
  have t := flt_take (p := fun x : JE => x.cls = cls ∧ x.vs = l) h
  exact ⟨fun q => by unfold ofC; rw [t.1 q, List.length_append]; rfl, fun q => by unfold ofC; rw [t.2 q]⟩
theorem ofC_le (L : List JE) (cls : Str) (l : List Val) (i : Nat) : (ofC (L.take i) cls l).length ≤ L.length := flt_take_le _ _ _
theorem c25 {cls : Str} {v : AV} {l : List Val} (O : JO B σ h0 hs J) (V : VV hs v l) (hl : J.L.length < n) (hB : B < 1000000000) (hn : 2 * B + 4 ≤ n) (hL : n < lim)
    (kk : ∀ h, Ext hs h → h.Ok → K (.int .i64 ((ofC J.L cls l).length : Int)) h = true) : callN E (n + 1) (.func 25) [.ptr J.p 0 0 0, .str cls, v] hs K = true := by
  have hlm : lim = 4611686018427387904 := rfl
  apply d25
  unfold s25
  suffices H : ∀ m i h, J.L.length - i < m → i ≤ J.L.length → Ext hs h → h.Ok → l25_8 (callN E n) n m (.ptr J.p 0 0 0) (.str cls) v (.int .i64 ((ofC (J.L.take i) cls l).length : Int)) (.int .i64 (i : Int)) h K = true from
    H n 0 hs (by omega) (Nat.zero_le _) (Ext.refl _) O.ok
  intro m
  induction m with
  | zero => intro i h hm; omega
  | succ m ihm =>
    intro i h hm hi e o
    have O' := O.ext e o
    have hcl := ofC_le J.L cls l i
    unfold l25_8 b25_8
    refine z_nil ?_; refine z_fadr ?_; refine z_of O'.l0 ?_; refine z_of (O'.L.len h) ?_; refine z_lss ?_
    by_cases hlt : i < J.L.length
    · refine z_ct (decide_eq_true (by omega)) ?_
      obtain ⟨id, g, j, ee, u, R⟩ := O'.L.at (List.getElem?_eq_getElem hlt)
      obtain ⟨p1, p2⟩ := u h (Ext.refl _)
      obtain ⟨vv, ev, nv, rfl, D, _, _, hb, _⟩ := R
      have A0 : loadA h false 1 (.ptr id g j 0) = some (.str J.L[i].cls) := by rw [p2]; rfl
      have A1 : loadA h false 1 (.ptr id g j 1) = some vv := by rw [p2]; rfl
      have t1 := ofC_take (cls := cls) (l := l) hlt
      have next : ∀ h', Ext hs h' → h'.Ok → p25_22 (callN E n) n (fun x0 x1 x2 x7 x8 h => l25_8 (callN E n) n m x0 x1 x2 x7 x8 h K) (.ptr J.p 0 0 0) (.str cls) v (.int .i64 ((ofC (J.L.take (i + 1)) cls l).length : Int)) (.int .i64 (i : Int)) h' K = true := fun h' e' o' => by
        unfold p25_22
        refine z_of (inc64 (i := i) (by omega)) ?_
        exact ihm (i + 1) h' (by omega) (by omega) e' o'
      refine z_nil ?_; refine z_fadr ?_; refine z_of O'.l0 ?_; refine z_of (p1 .i64) ?_; refine z_fadr ?_; refine z_of A0 ?_; refine z_seq ?_
      by_cases c0 : J.L[i].cls = cls
      · rw [decide_eq_true c0]
        refine z_gtt ?_; refine z_some ?_; refine z_gtt ?_; refine z_nil ?_; refine z_gtt ?_; refine z_fadr ?_; refine z_gtt ?_; refine z_of O'.l0 ?_; refine z_gtt ?_; refine z_some ?_; refine z_gtt ?_; refine z_of (p1 .i64) ?_; refine z_gtt ?_; refine z_fadr ?_; refine z_gtt ?_; refine z_of A1 ?_; refine z_gtt ?_; refine z_some ?_; refine z_rtt ?_
        obtain ⟨n, rfl⟩ : ∃ j, n = j + 1 := ⟨n - 1, by omega⟩
        refine c27 B n D.now (V.ext e) o hb (by omega) (by omega) (by omega) fun h4 r e4 o4 hr => ?_
        cases r with
        | true =>
          refine z_kt ?_; refine z_cT ?_; refine z_of (inc64 (i := (ofC (J.L.take i) cls l).length) (by omega)) ?_
          have := next h4 (ext_two e e4) o4
          rw [t1.1 ⟨c0, hr.1 rfl⟩] at this
          exact this
        | false =>
          refine z_kt ?_; refine z_cF ?_
          have := next h4 (ext_two e e4) o4
          rw [t1.2 fun q => by cases hr.2 q.2] at this
          exact this
      · rw [decide_eq_false c0]
        refine z_gft ?_; refine z_gft ?_; refine z_gft ?_; refine z_gft ?_; refine z_gft ?_; refine z_gft ?_; refine z_gft ?_; refine z_gft ?_; refine z_gft ?_; refine z_rft ?_; refine z_kf ?_; refine z_cF ?_
        have := next h e o
        rw [t1.2 fun q => c0 q.1] at this
        exact this
    · refine z_cf (decide_eq_false (by omega)) ?_
      rw [List.take_of_length_le (by omega)]
      exact kk h e o
theorem c22 (O : JO B σ h0 hs J) (kk : K (.int .i64 (J.H.length : Int)) hs = true) : callN E (n + 1) (.func 22) [.ptr J.p 0 0 0] hs K = true := by
  apply d22
  unfold s22
  refine z_nil ?_; refine z_fadr ?_; refine z_of O.l1 ?_; refine z_of (O.H.len hs) ?_
  exact kk
theorem c26 (O : JO B σ h0 hs J) {i : Nat} (hi : i < J.H.length) (kk : ∀ v, DV σ hs v J.H[i].vs → K (.tup [.str J.H[i].cls, v]) hs = true) : callN E (n + 1) (.func 26) [.ptr J.p 0 0 0, .int .i64 (i : Int)] hs K = true := by
  apply d26
  unfold s26
  obtain ⟨id, g, j, ee, u, R⟩ := O.H.at (List.getElem?_eq_getElem hi)
  obtain ⟨p1, p2⟩ := u hs (Ext.refl _)
  obtain ⟨vv, ev, nv, rfl, D, _⟩ := R
  have A0 : loadA hs false 1 (.ptr id g j 0) = some (.str J.H[i].cls) := by rw [p2]; rfl
  have A1 : loadA hs false 1 (.ptr id g j 1) = some vv := by rw [p2]; rfl
  refine z_nil ?_; refine z_fadr ?_; refine z_of O.l1 ?_; refine z_of (p1 .i64) ?_; refine z_fadr ?_; refine z_of A0 ?_; refine z_nil ?_; refine z_fadr ?_; refine z_of O.l1 ?_; refine z_of (p1 .i64) ?_; refine z_fadr ?_; refine z_of A1 ?_
  exact kk vv D
theorem c16 (O : JO B σ h0 hs J) (hl : J.M.length < 1000000) (kk : ∀ h v, Ext hs h → h.Ok → Rw hs.sz 3 (RM B h0) h v J.M → K v h = true) : callN E (n + 1) (.func 16) [.ptr J.p 0 0 0] hs K = true := by
  have hmo : most = 1099511627776 := rfl
  apply d16
  unfold s16
  refine z_nil ?_; refine z_fadr ?_; refine z_of O.l2 ?_
  obtain ⟨es, w, a⟩ := O.M
  have hal := a.length
  obtain ⟨v', h', a1, a2, a3, a4, a5, a6⟩ := own_app2 (b := hs.sz) (bytes := 56) (Own.nil hs.sz hs 3) (by decide) (Nat.le_refl _) O.ok O.ok (Ext.refl _) (Nat.le_refl _) w.view.src (by simp; omega) (by simp; omega)
  refine z_p a1 ?_
  exact kk h' v' a4 a3 ⟨es, a2, a⟩
end
end Go.Proofs.Ytbamgdknkhhikaa
