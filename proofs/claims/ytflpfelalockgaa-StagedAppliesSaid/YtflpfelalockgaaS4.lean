/-
  'lists' and 'Take': the keys by their changes, in the order in which they came.
-/
import Derived.Test.YtflpfelalockgaaS3
namespace Go.Proofs.Ytflpfelalockgaa
open Go.Ab
set_option linter.unusedSimpArgs false
set_option linter.unusedVariables false

/-! ### A heap that is only read -/
theorem load_frz {h : AHeap} {id : Nat} {c : List AV} (V : Var h id c) (ag : Bool) (off n : Nat) : loadA h.frz ag n (.ptr id 0 0 off) = partA ag off n c := by
  have V' : h.row id = some (VRow c) := V
  simp only [loadA, AHeap.row_frz V', VRow, Nat.ble_self_eq_true, cond_true, nth_zero]
theorem look_frz {κ : Type} {ek : κ → AV} {h : AHeap} {id : Nat} {l : List (κ × AV)} (M : KMap ek h id l) (kk : KK) (z k : AV) : lookA h.frz kk false z (.map id) k = lookA h kk false z (.map id) k := by
  obtain ⟨es, c, m⟩ := M
  have e1 : mapOf h (.map id) = some (es, c) := by simp only [mapOf, m.get]
  have e2 : mapOf h.frz (.map id) = some (es, c) := by simp only [mapOf, AHeap.get_frz, m.get, Option.map, frzO]
  simp only [lookA, e1, e2]

def cmOf (l : Ls) (k : Str) : Nat := ((lkG l k).getD (0, 0)).2

theorem c29 {n w p m : Nat} {h : AHeap} {l : Ls} {a b : Str} {K : Kont} (e1 : loadA h false 1 (.ptr w 0 0 0) = some (.ptr p 0 0 0)) (e2 : loadA h false 1 (.ptr p 0 0 0) = some (.map m))
    (e3 : ∀ k, lookA h (.leaf .str) false (.agg [.int .i64 0, .int .i64 0]) (.map m) (.str k) = some (enc2 ((lkG l k).getD (0, 0)))) (ha : cmOf l a < 1000000) (hb : cmOf l b < 1000000)
    (k : K (.int .i64 ((cmOf l a : Int) - (cmOf l b : Int))) h = true) : callN E (n + 1) (.func 29) [.str a, .str b, .ptr w 0 0 0] h K = true := by
  apply d29
  unfold s29
  have f : ∀ x : Nat × Nat, fldA false 1 1 (enc2 x) = some (.int .i64 (x.2 : Int)) := fun x => rfl
  rw [o_of e1, o_nilck, o_fadr0, o_of e2, o_of (e3 a), o_of (f _), o_of e1, o_nilck, o_fadr0, o_of e2, o_of (e3 b), o_of (f _)]
  unfold cmOf at ha hb k
  rw [o_of (sub64 (by omega) (by omega))]
  exact k

def tx : AV → Str
  | .str s => s
  | _ => []
def cfOf (l : Ls) (x y : AV) : Int := (cmOf l (tx x) : Int) - (cmOf l (tx y) : Int)

theorem flat_str (ks : List Str) : enc1 ks = (ks.map AV.str).map fun v => [v] := by simp [enc1, List.map_map, Function.comp_def]

theorem sort_ok {n w p m c : Nat} {h : AHeap} {l : Ls} {v : AV} {ks ks' : List Str} {K : Kont} (S : SetO h p m c l) (W : Var h w [.ptr p 0 0 0]) (o : h.Ok) (hc : c < 1000000) (O : Own 0 h 1 v (enc1 ks)) (hw : ¬ inRow v w) (hp : ¬ inRow v p) (hm : ¬ inRow v m)
    (hk : ks.Perm ks') (hi : ∀ a ∈ ks', ∀ b ∈ ks', cmOf l a = cmOf l b → a = b) (hs : ks'.Pairwise fun a b => cmOf l a ≤ cmOf l b) (hl : ks.length < 1000000)
    (k : ∀ h', Fr (inRow v) h h' → h'.Ok → Own 0 h' 1 v (enc1 ks') → K (.tup []) h' = true) :
    callN E (n + 2) (.func 28) [v, .fn (.func 29) [] [.ptr w 0 0 0]] h K = true := by
  show sortP [29] (callN E (n + 1)) (n + 1) [v, .fn (.func 29) [] [.ptr w 0 0 0]] h K = true
  have cmb : ∀ a, cmOf l a < 1000000 := fun a => by
    unfold cmOf
    cases e : lkG l a with
    | none => decide
    | some u => have := (S.top _ (lkG_mem e)).1; simp only [Option.getD_some]; simp only at this; omega
  rcases O with ⟨rfl, he⟩ | ⟨id, r, w1, rfl, w3, w4, w5, w6, w7⟩
  · have hks : ks = [] := by simpa [enc1] using he
    subst hks
    have : ks' = [] := hk.symm.eq_nil
    subst this
    exact k h (Fr.refl _ _) o (.inl ⟨rfl, rfl⟩)
  · rw [enc1_len] at *
    have hww : w ≠ id := fun e => hw (inRow_slc.2 e.symm)
    have hpp : p ≠ id := fun e => hp (inRow_slc.2 e.symm)
    have hmm : m ≠ id := fun e => hm (inRow_slc.2 e.symm)
    show (bif Nat.beq ks.length 0 then K (.tup []) h else cdec _) = true
    cases hz : Nat.beq ks.length 0 with
    | true =>
      have h0 := nbeq_true.1 hz
      have hks : ks = [] := List.length_eq_zero_iff.1 h0
      subst hks
      have : ks' = [] := hk.symm.eq_nil
      subst this
      exact k h (Fr.refl _ _) o (.inr ⟨id, r, w1, rfl, w3, w4, w5, w6, w7⟩)
    | false =>
      rw [cond_false]
      refine cdec_true.2 ⟨List.mem_singleton.2 rfl, r, ks.map .str, cfOf l, rfl, List.length_map _, ?_⟩
      have lay_us : ∀ us : List AV, us.length = ks.length → lay r.es 0 (us.map fun v => [v]) = us.map fun v => [v] := fun us hu => by
        have : r.es.length = us.length := by rw [w7, enc1_len, hu]
        simp only [lay, List.take_zero, List.nil_append, List.length_map, Nat.zero_add]
        rw [List.drop_of_length_le (by omega), List.append_nil]
      have strs : ∀ x ∈ ks.map AV.str, ∃ s, x = .str s ∧ s ∈ ks := fun x hx => by
        obtain ⟨s, hs, rfl⟩ := List.mem_map.1 hx; exact ⟨s, rfl, hs⟩
      refine ⟨AHeap.row_some.1 w3, w4, w6, ?_, by rw [List.length_map]; omega, fun x _ => by unfold cfOf; omega, fun x _ y _ z _ => by unfold cfOf; omega, fun x _ y _ z _ => by unfold cfOf; omega, ?_, ?_⟩
      · rw [w7, List.drop_zero, List.length_map, List.take_of_length_le (by rw [enc1_len]; exact Nat.le_refl _)]; exact flat_str ks
      · intro us hu _ x hx y hy
        obtain ⟨a, rfl, _⟩ := strs x hx
        obtain ⟨b, rfl, _⟩ := strs y hy
        have f : Fr (fun j => j = id) h (putSeg h id r 0 us) := Fr.put (X := fun j => j = id) rfl h _
        have S' := S.fr f hpp hmm
        have W' := f.var W hww
        refine c29 (l := l) (by rw [load_frz W']; rfl) (by rw [load_frz S'.var]; rfl) (fun k => ?_) (cmb a) (cmb b) ?_
        · rw [look_frz S'.map]; exact S'.look k
        · show ieqb (cfOf l (.str a) (.str b)) _ = true
          rw [ieqb_dec]; exact decide_eq_true rfl
      · intro us hp1 hp2
        have heq : us = ks'.map AV.str := by
          refine List.Perm.eq_of_pairwise (le := fun a b => ¬ cfOf l b a < 0) (fun a b ha hb h1 h2 => ?_) hp2 ?_ (hp1.trans (hk.map AV.str))
          · obtain ⟨s, rfl, hs1⟩ := strs a (hp1.mem_iff.1 ha)
            obtain ⟨t, ht, rfl⟩ := List.mem_map.1 hb
            have : s = t := hi s (hk.mem_iff.1 hs1) t ht (by simp only [cfOf, tx] at h1 h2; omega)
            rw [this]
          · rw [List.pairwise_map]
            exact hs.imp fun {a b} e => by simp only [cfOf, tx]; omega
        subst heq
        have hlen : ks'.length = ks.length := hk.length_eq.symm
        refine k _ ((Fr.put (X := fun j => j = id) rfl h _).mono fun j e => by rw [e]; exact ⟨_, _, _, _, _, rfl⟩) (o.put (o.lt (AHeap.row_some.1 w3)) _) ?_
        refine .inr ⟨id, { r with es := lay r.es 0 ((ks'.map AV.str).map fun v => [v]), m := r.g }, w1, by rw [enc1_len, hlen], AHeap.row_some.2 (get_put_same _ _ _), w4, Nat.le_refl _, w6, ?_⟩
        show lay r.es 0 _ = _
        rw [lay_us _ (by rw [List.length_map, hlen]), flat_str]

/-! ### The lists -/
structure Outs (b : Nat) (h : AHeap) (f : Nat → AV) (L : Nat → List Str) : Prop where
  own : ∀ i, i < 4 → Own 0 h 1 (f i) (enc1 (L i))
  hi : ∀ i, i < 4 → ∀ j, inRow (f i) j → b ≤ j
  dis : ∀ i k, i < 4 → k < 4 → i ≠ k → ∀ j, inRow (f i) j → ¬ inRow (f k) j

def fn4 (f : Nat → AV) : List AV := [f 0, f 1, f 2, f 3]
theorem fn4_at (f : Nat → AV) {i : Nat} (h : i < 4) : (fn4 f)[i]? = some (f i) := by
  have : i = 0 ∨ i = 1 ∨ i = 2 ∨ i = 3 := by omega
  rcases this with rfl | rfl | rfl | rfl <;> rfl
def updF (f : Nat → AV) (i : Nat) (v : AV) : Nat → AV := fun j => if j = i then v else f j
theorem fn4_set (f : Nat → AV) {i : Nat} (h : i < 4) (v : AV) : (fn4 f).set i v = fn4 (updF f i v) := by
  have : i = 0 ∨ i = 1 ∨ i = 2 ∨ i = 3 := by omega
  rcases this with rfl | rfl | rfl | rfl <;> rfl

theorem Outs.fr {b : Nat} {h h' : AHeap} {f : Nat → AV} {L : Nat → List Str} {X : Nat → Prop} (O : Outs b h f L) (F : Fr X h h') (d : ∀ i, i < 4 → ∀ j, inRow (f i) j → ¬ X j) : Outs b h' f L :=
  ⟨fun i hi => own_fr (O.own i hi) F (d i hi), O.hi, O.dis⟩
theorem Outs.lt {b : Nat} {h : AHeap} {f : Nat → AV} {L : Nat → List Str} (O : Outs b h f L) (o : h.Ok) {i : Nat} (hi : i < 4) {j : Nat} (e : inRow (f i) j) : j < h.sz := own_lt (O.own i hi) o e
/-- One of the lists, told anew. -/
theorem Outs.upd {b : Nat} {h h' : AHeap} {f : Nat → AV} {L L' : Nat → List Str} {i : Nat} {v : AV} (O : Outs b h f L) (o : h.Ok) (hi : i < 4) (F : Fr (inRow (f i)) h h') (hv : Own 0 h' 1 v (enc1 (L' i))) (hL : ∀ k, k ≠ i → L' k = L k) (hb : b ≤ h.sz) (hr : ∀ j, inRow v j → inRow (f i) j ∨ h.sz ≤ j) : Outs b h' (updF f i v) L' := by
  have key : ∀ k, k < 4 → k ≠ i → ∀ j, inRow v j → ¬ inRow (f k) j := fun k hk hne j e e' => by
    rcases hr j e with e | e
    · exact O.dis i k hi hk (fun q => hne q.symm) j e e'
    · have := O.lt o hk e'; omega
  refine ⟨fun k hk => ?_, fun k hk j e => ?_, fun k q hk hq hne j e e' => ?_⟩
  · unfold updF
    by_cases e : k = i
    · rw [if_pos e, e]; exact hv
    · rw [if_neg e, hL k e]
      exact own_fr (O.own k hk) F fun j e1 e2 => O.dis k i hk hi e j e1 e2
  · unfold updF at e
    by_cases q : k = i
    · rw [if_pos q] at e
      rcases hr j e with e | e
      · exact O.hi i hi j e
      · omega
    · rw [if_neg q] at e; exact O.hi k hk j e
  · unfold updF at e e'
    by_cases q1 : k = i
    · rw [if_pos q1] at e
      rw [if_neg (fun q2 => hne (q1.trans q2.symm))] at e'
      exact key q hq (fun q2 => hne (q1.trans q2.symm)) j e e'
    · rw [if_neg q1] at e
      by_cases q2 : q = i
      · rw [if_pos q2] at e'
        exact key k hk q1 j e' e
      · rw [if_neg q2] at e'
        exact O.dis k q hk hq hne j e e'

def keysL (l : Ls) (d : Nat) : List Str := (l.filter fun x => x.2.1 == d).map fun x => x.1
theorem keysL_bk (l : Ls) (d : Nat) : keysOf (bk l) d = keysL l d := by
  unfold keysOf keysL bk mp
  rw [List.filter_map, List.map_map]; rfl
theorem keysL_app (l : Ls) (x : Str × Nat × Nat) (d : Nat) : keysL (l ++ [x]) d = if x.2.1 = d then keysL l d ++ [x.1] else keysL l d := by
  unfold keysL
  rw [List.filter_append, List.map_append]
  by_cases e : x.2.1 = d
  · rw [if_pos e, List.filter_cons_of_pos (by simp [e])]; rfl
  · rw [if_neg e, List.filter_cons_of_neg (by simp [e])]; simp
theorem keysL_len (l : Ls) (d : Nat) : (keysL l d).length ≤ l.length := by
  unfold keysL; rw [List.length_map]; exact List.length_filter_le _ _

def dec2 : Str × AV → Str × Nat × Nat
  | (k, .agg [.int _ a, .int _ b]) => (k, a.toNat, b.toNat)
  | (k, _) => (k, 0, 0)
theorem dec_mp : ∀ (l : Ls), (mp enc2 l).map dec2 = l
  | [] => rfl
  | x :: t => by
    show dec2 (x.1, enc2 x.2) :: (mp enc2 t).map dec2 = _
    rw [dec_mp t]; rfl

theorem o_of2 {o : Option AV} {v : AV} (e : o = some v) (k : AV → Bool) : optB o k = k v := by subst e; rfl

structure LI (b : Nat) (h : AHeap) (p m : Nat) (f : Nat → AV) (L : Nat → List Str) : Prop where
  w : Var h b [.ptr p 0 0 0]
  x2 : Var h (b + 1) [.nilSlc, .nilSlc, .nilSlc, .nilSlc]
  x3 : Var h (b + 2) (fn4 f)
  outs : Outs (b + 4) h f L
  ok : h.Ok
  sz : b + 4 ≤ h.sz

theorem LI.fr {b : Nat} {h h' : AHeap} {p m : Nat} {f : Nat → AV} {L : Nat → List Str} {X : Nat → Prop} (I : LI b h p m f L) (F : Fr X h h') (hx : ∀ j, X j → j = b + 3 ∨ h.sz ≤ j) (o : h'.Ok) : LI b h' p m f L := by
  have := I.sz
  have nx : ∀ {j}, j ≠ b + 3 → j < h.sz → ¬ X j := fun h1 h2 e => by rcases hx _ e with e | e <;> omega
  exact ⟨F.var I.w (nx (by omega) (I.w.lt I.ok)), F.var I.x2 (nx (by omega) (I.x2.lt I.ok)), F.var I.x3 (nx (by omega) (I.x3.lt I.ok)), I.outs.fr F fun i hi j e => nx (by have := I.outs.hi i hi j e; omega) (I.outs.lt I.ok hi e), o, Nat.le_trans I.sz F.sz⟩

theorem l23a {n p m c : Nat} {h0 : AHeap} {l : Ls} {K : Kont} (S : SetO h0 p m c l) (k0 : h0.Ok) (hc : c < 1000000)
    (k : ∀ h f, Ext h0 h → LI h0.sz h p m f (keysOf (bk l)) → p23_36 (callN E (n + 2)) (n + 2) (.ptr (h0.sz + 1) 0 0 0) (.ptr (h0.sz + 2) 0 0 0) h K = true) :
    ∀ mm i h f (done : Ls), done.Perm l → Ext h0 h → LI h0.sz h p m f (fun j => if j < i then keysOf (bk l) j else keysL done j) → i ≤ 4 → 4 - i < mm →
      l23_23 (callN E (n + 2)) (n + 2) mm (.ptr h0.sz 0 0 0) (.ptr (h0.sz + 1) 0 0 0) (.ptr (h0.sz + 2) 0 0 0) (.agg (fn4 f)) (.int .i64 (i : Int)) h K = true := by
  have hlim : lim = 4611686018427387904 := rfl
  intro mm
  induction mm with
  | zero => intro i h f done _ _ _ _ hm; omega
  | succ mm ih =>
    intro i h f done hd e I hi hm
    unfold l23_23 b23_23
    rw [o_lss]
    by_cases hlt : i < 4
    · rw [condB_t (decide_eq_true (by omega))]
      have e1 : idxaA false 4 1 (.agg (fn4 f)) (.int .i64 (i : Int)) = some (f i) := by
        simp only [idxaA, asNat_nat, nblt_true.2 hlt, cond_true, Nat.mul_one, partA_false]
        rw [nth_eq]; exact fn4_at f hlt
      rw [o_of e1, o_some]
      have hkn := S.keys
      have inl : ∀ a, a ∈ keysOf (bk l) i → ∃ x ∈ l, x.1 = a ∧ cmOf l a = x.2.2 ∧ x.2.1 = i := fun a ha => by
        rw [keysL_bk] at ha
        obtain ⟨x, hx, rfl⟩ := List.mem_map.1 ha
        obtain ⟨h1, h2⟩ := List.mem_filter.1 hx
        refine ⟨x, h1, rfl, ?_, by simpa using h2⟩
        unfold cmOf; rw [lkG_of_mem (u := x.2) hkn h1]; rfl
      have OO := I.outs.own i hlt
      rw [if_neg (Nat.lt_irrefl i)] at OO
      have big := fun j (q : inRow (f i) j) => I.outs.hi i hlt j q
      have pl := S.plt k0
      have ml := S.mlt k0
      refine sort_ok (n := n) (ks' := keysOf (bk l) i) (S.ext e) I.w I.ok hc OO (fun q => by have := big _ q; omega) (fun q => by have := big _ q; omega) (fun q => by have := big _ q; omega) ?_ ?_ ?_ ?_ ?_
      · rw [keysL_bk]
        exact (hd.filter _).map _
      · intro a ha b hb hab
        obtain ⟨x, x1, x2, x3, _⟩ := inl a ha
        obtain ⟨y, y1, y2, y3, _⟩ := inl b hb
        have hxy : x.2.2 = y.2.2 := by omega
        have : x = y := by
          have hs := S.srt
          rw [List.pairwise_map] at hs
          rcases List.mem_iff_getElem.1 x1 with ⟨i1, h1, rfl⟩
          rcases List.mem_iff_getElem.1 y1 with ⟨i2, h2, rfl⟩
          rcases Nat.lt_trichotomy i1 i2 with q | q | q
          · have := List.pairwise_iff_getElem.1 hs i1 i2 h1 h2 q; omega
          · subst q; rfl
          · have := List.pairwise_iff_getElem.1 hs i2 i1 h2 h1 q; omega
        rw [← x2, ← y2, this]
      · rw [keysL_bk]
        unfold keysL
        rw [List.pairwise_map]
        have hs := S.srt
        rw [List.pairwise_map] at hs
        refine (hs.filter _).imp_of_mem fun {x y} hx hy hxy => ?_
        have h1 := (List.mem_filter.1 hx).1
        have h2 := (List.mem_filter.1 hy).1
        unfold cmOf
        rw [lkG_of_mem (u := x.2) hkn h1, lkG_of_mem (u := y.2) hkn h2]
        exact Nat.le_of_lt hxy
      · have h1 := keysL_len done i
        have h2 := hd.length_eq
        have h3 := S.len
        omega
      · intro h' F o' O'
        rw [o_of (inc64 (show i < lim by omega))]
        have hxx : ∀ j, inRow (f i) j → h0.sz + 4 ≤ j := big
        refine ih (i + 1) h' f done hd (F.ext e k0 fun j q => by have := hxx j q; omega) ?_ (by omega) (by omega)
        have U := I.outs.upd (L' := fun j => if j < i + 1 then keysOf (bk l) j else keysL done j) (v := f i) I.ok hlt F (by rw [if_pos (Nat.lt_succ_self i)]; exact O') (fun k hk => by
            by_cases q : k < i
            · rw [if_pos q, if_pos (by omega)]
            · rw [if_neg q, if_neg (by omega)]) I.sz (fun j q => .inl q)
        have hu : updF f i (f i) = f := by
          funext j; unfold updF; by_cases q : j = i
          · rw [if_pos q, q]
          · rw [if_neg q]
        rw [hu] at U
        exact ⟨F.var I.w fun q => by have := hxx _ q; omega, F.var I.x2 fun q => by have := hxx _ q; omega, F.var I.x3 fun q => by have := hxx _ q; omega, U, o', Nat.le_trans I.sz F.sz⟩
    · rw [condB_f (decide_eq_false (by omega))]
      have : i = 4 := by omega
      subst this
      refine k h f e ⟨I.w, I.x2, I.x3, ⟨fun i hi => ?_, I.outs.hi, I.outs.dis⟩, I.ok, I.sz⟩
      have := I.outs.own i hi
      rw [if_pos hi] at this
      exact this

theorem l23b {n p m c : Nat} {h0 : AHeap} {l : Ls} {K : Kont} (S : SetO h0 p m c l) (k0 : h0.Ok) (hc : c < 1000000)
    (k : ∀ h f done, done.Perm l → Ext h0 h → LI h0.sz h p m f (keysL done) → p23_19 (callN E (n + 2)) (n + 2) (.ptr h0.sz 0 0 0) (.ptr (h0.sz + 1) 0 0 0) (.ptr (h0.sz + 2) 0 0 0) h K = true) :
    ∀ mm h f (done : Ls), KIter strKey h (h0.sz + 3) m (mp enc2 l) (mp enc2 done) → Ext h0 h → LI h0.sz h p m f (keysL done) → done.length ≤ l.length → l.length - done.length < mm →
      l23_8 (callN E (n + 2)) (n + 2) mm (.ptr h0.sz 0 0 0) (.ptr (h0.sz + 1) 0 0 0) (.ptr (h0.sz + 2) 0 0 0) (.itr (h0.sz + 3)) h K = true := by
  have hmo : most = 1099511627776 := rfl
  intro mm
  induction mm with
  | zero => intro h f done _ _ _ _ hm; omega
  | succ mm ih =>
    intro h f done IT e I hdl hm
    unfold l23_8 b23_8
    have ml := S.mlt k0
    have Ll := S.len
    refine IT.next strKeys I.ok (by omega) (fun hP => ?_) (fun key v h1 hv hnd B1 o1 z1 IT1 ent => ?_)
    · rw [o_ext0, condB_false]
      refine k h f done ?_ e I
      have := hP.map dec2
      rw [dec_mp, dec_mp] at this
      exact this
    · obtain ⟨x, hx, hxe⟩ := List.mem_map.1 hv
      obtain ⟨xk, xd, xc⟩ := x
      simp only [Prod.mk.injEq] at hxe
      obtain ⟨rfl, rfl⟩ := hxe
      have htop := S.top _ hx
      simp only at htop
      have I1 := I.fr (Fr.of_but (X := fun j => j = h0.sz + 3) rfl B1) (fun j q => .inl q) o1
      have e1 : Ext h0 h1 := B1.ext e k0 (by omega)
      rw [o_ext0, condB_true, o_of ent, o_ext0, o_ext1]
      have IT1 : KIter strKey h1 (h0.sz + 3) m (mp enc2 l) (mp enc2 (done ++ [(xk, xd, xc)])) := by
        have : mp enc2 (done ++ [(xk, xd, xc)]) = mp enc2 done ++ [(xk, enc2 (xd, xc))] := by simp [mp]
        rw [this]; exact IT1
      have A : allocV h1 [AV.int .i64 0, .int .i64 0] = some (.ptr h1.sz 0 0 0, Ab.newRow h1 [[AV.int .i64 0, .int .i64 0]] 2) := alloc_eq (by decide) rfl
      rw [p_of A]
      rw [u_of (show storeA (Ab.newRow h1 [[AV.int .i64 0, .int .i64 0]] 2) 2 (.ptr h1.sz 0 0 0) (enc2 (xd, xc)) = some (Ab.newRow h1 [[AV.int .i64 (xd : Int), .int .i64 (xc : Int)]] 2) from store_new rfl rfl rfl)]
      have g2 := ext_newRow o1 [[AV.int .i64 (xd : Int), .int .i64 (xc : Int)]] 2
      have o2 := ok_newRow o1 [[AV.int .i64 (xd : Int), .int .i64 (xc : Int)]] 2
      have W2 : Var (Ab.newRow h1 [[AV.int .i64 (xd : Int), .int .i64 (xc : Int)]] 2) h1.sz [.int .i64 (xd : Int), .int .i64 (xc : Int)] := var_new h1 _
      have I2 := I1.fr (Fr.of_ext (X := fun _ => False) g2) (fun j q => q.elim) o2
      have IT2 := (Fr.of_ext (X := fun _ => False) g2).kiter IT1 id id
      have z2 : (Ab.newRow h1 [[AV.int .i64 (xd : Int), .int .i64 (xc : Int)]] 2).sz = h1.sz + 1 := rfl
      generalize Ab.newRow h1 [[AV.int .i64 (xd : Int), .int .i64 (xc : Int)]] 2 = h2 at *
      have L2 : ∀ {h}, Ext h2 h → loadA h false 1 (.ptr h1.sz 0 0 0) = some (.int .i64 (xd : Int)) := fun e => by rw [(W2.ext e).load]; rfl
      have P2 : iadraA 4 1 (.ptr (h0.sz + 2) 0 0 0) (.int .i64 (xd : Int)) = some (.ptr (h0.sz + 2) 0 0 xd) := by
        simp only [iadraA, asNat_nat, nblt_true.2 (show xd < 4 by omega), cond_true, Nat.mul_one, Nat.zero_add]
      have V2 : ∀ {h}, Ext h2 h → loadA h false 1 (.ptr (h0.sz + 2) 0 0 xd) = some (f xd) := fun e => by
        rw [(I2.x3.ext e).load, partA_false, nth_eq]; exact fn4_at f (by omega)
      rw [o_fadr0, o_of (L2 (Ext.refl _)), o_fadr0, o_of (L2 (Ext.refl _)), o_of P2, o_of (V2 (Ext.refl _))]
      obtain ⟨wv, b1, b2⟩ := bslice_view (h := h2) (n := 1) (sz := 1) (z := [AV.str []]) (ps := [(0, .str xk)]) (es := [[.str xk]]) rfl (by decide) (by decide) rfl rfl rfl
      rw [p_of (show bsliceV h2 1 1 [AV.str []] [(0, strKey xk)] = some (wv, Ab.newRow h2 [[.str xk]] 1) from b1)]
      have g3 := ext_newRow o2 [[AV.str xk]] 1
      have o3 := ok_newRow o2 [[AV.str xk]] 1
      have I3 := I2.fr (Fr.of_ext (X := fun _ => False) g3) (fun j q => q.elim) o3
      have IT3 := (Fr.of_ext (X := fun _ => False) g3).kiter IT2 id id
      generalize Ab.newRow h2 [[AV.str xk]] 1 = h3 at *
      rw [sameB_of (L2 g3) (same_int _ _), sameB_of (L2 g3) (same_int _ _), sameB_of (V2 g3) (by
        rcases I3.outs.own xd (by omega) with ⟨q, _⟩ | ⟨id, r, _, q, _⟩ <;> rw [q]
        · rfl
        · exact same_slc _ _ _ _ _ _)]
      obtain ⟨v', h4, a1, a2, a3, a4, a5⟩ := own_app (bytes := 16) (I3.outs.own xd (by omega)) (by decide) o3 b2.src (by rw [enc1_len]; have := keysL_len done xd; simp; omega) (by rw [enc1_len]; have := keysL_len done xd; simp; omega)
      rw [p_of a1]
      have nrow : ∀ {j}, j < h0.sz + 4 → ¬ inRow (f xd) j := fun hj q => by have := I3.outs.hi xd (by omega) _ q; omega
      have z3 := g3.1
      have W4 : Var h4 h1.sz [.int .i64 (xd : Int), .int .i64 (xc : Int)] := a4.var (W2.ext g3) fun q => by
        rcases I1.outs.own xd (by omega) with ⟨q', _⟩ | ⟨id, r, _, q', q'', _⟩
        · rw [q'] at q; exact inRow_nil q
        · rw [q'] at q
          have h1 := inRow_slc.1 q
          have h2 := o1.lt (AHeap.row_some.1 q'')
          omega
      rw [sameB_of (show loadA h4 false 1 (.ptr h1.sz 0 0 0) = some (.int .i64 (xd : Int)) by rw [W4.load]; rfl) (same_int _ _), o_of P2]
      have X4 := a4.var I3.x3 (nrow (by omega))
      rw [u_of (X4.set1 (off := xd) (v := v') (show xd < 4 by omega) a2.view.leaf)]
      have f5 := Fr.put (X := fun j => j = h0.sz + 2) rfl h4 (.row (VRow ((fn4 f).set xd v')))
      have o5 := a3.put (X4.lt a3) (.row (VRow ((fn4 f).set xd v')))
      have X5 : Var (h4.put (h0.sz + 2) (.row (VRow ((fn4 f).set xd v')))) (h0.sz + 2) ((fn4 f).set xd v') := var_put _ _
      generalize h4.put (h0.sz + 2) (.row (VRow ((fn4 f).set xd v'))) = h5 at *
      rw [fn4_set f (by omega)] at X5
      have s3 := I3.sz
      have new5 : ∀ j, inRow v' j → h0.sz + 4 ≤ j := fun j q => by
        rcases a5 j q with q | q
        · exact I3.outs.hi xd (by omega) j q
        · omega
      have U4 := I3.outs.upd (L' := keysL (done ++ [(xk, xd, xc)])) (v := v') o3 (show xd < 4 by omega) a4 (by
          rw [keysL_app, if_pos rfl]
          have : enc1 (keysL done xd ++ [xk]) = enc1 (keysL done xd) ++ [[.str xk]] := by simp [enc1]
          rw [this]; exact a2) (fun k hk => by rw [keysL_app, if_neg (fun q => hk q.symm)]) s3 a5
      have U5 := U4.fr f5 fun i hi j q q' => by have := U4.hi i hi j q; omega
      have IT5 := f5.kiter (a4.kiter IT3 (nrow (by omega)) (nrow (by omega))) (by omega) (by omega)
      have hk3 : Ext h0 h3 := (e1.trans g2).trans g3
      have hk4 : Ext h0 h4 := a4.ext hk3 k0 fun j q => by
        have := I3.outs.hi xd (by omega) j q; omega
      refine ih h5 (updF f xd v') (done ++ [(xk, xd, xc)]) IT5 (f5.ext hk4 k0 fun j q => by omega) ⟨f5.var (a4.var I3.w (nrow (by omega))) (by omega), f5.var (a4.var I3.x2 (nrow (by omega))) (by omega), X5, U5, o5, Nat.le_trans s3 (Nat.le_trans a4.sz f5.sz)⟩ ?_ ?_
      · have hsub : (mp enc2 (done ++ [(xk, xd, xc)])).length ≤ (mp enc2 l).length := by
          obtain ⟨es, c', de, q1, q2, q3, q4, q5⟩ := IT5
          have hn1 : de.Nodup := by
            rw [List.nodup_iff_pairwise_ne] at q4 ⊢
            rw [List.pairwise_map] at q4
            exact q4.imp fun q e => q (by rw [e])
          have := hn1.length_le_of_subset (fun x hx => q3 x hx)
          rw [q2.length, q1.ents.length] at this
          exact this
        simpa [mp] using hsub
      · simp only [List.length_append, List.length_cons, List.length_nil]
        have : done.length < l.length := by
          have hsub : (mp enc2 (done ++ [(xk, xd, xc)])).length ≤ (mp enc2 l).length := by
            obtain ⟨es, c', de, q1, q2, q3, q4, q5⟩ := IT5
            have hn1 : de.Nodup := by
              rw [List.nodup_iff_pairwise_ne] at q4 ⊢
              rw [List.pairwise_map] at q4
              exact q4.imp fun q e => q (by rw [e])
            have := hn1.length_le_of_subset (fun x hx => q3 x hx)
            rw [q2.length, q1.ents.length] at this
            exact this
          simp [mp] at hsub; omega
        omega

theorem c23 {n p m c : Nat} {h0 : AHeap} {l : Ls} {K : Kont} (S : SetO h0 p m c l) (k0 : h0.Ok) (hc : c < 1000000) (hn : l.length < n) (hn4 : 4 < n)
    (k : ∀ h f, Ext h0 h → h.Ok → Outs h0.sz h f (keysOf (bk l)) → K (.agg (fn4 f)) h = true) : callN E (n + 3) (.func 23) [.ptr p 0 0 0] h0 K = true := by
  apply d23
  unfold s23
  have A1 : boxA h0 1 (.ptr p 0 0 0) = some (.ptr h0.sz 0 0 0, Ab.newRow h0 [[.ptr p 0 0 0]] 1) := box_eq (n := 1) rfl (by decide) rfl
  rw [p_of A1]
  have e1 := ext_newRow k0 [[AV.ptr p 0 0 0]] 1
  have o1 := ok_newRow k0 [[AV.ptr p 0 0 0]] 1
  have V1 : Var (Ab.newRow h0 [[AV.ptr p 0 0 0]] 1) h0.sz [.ptr p 0 0 0] := var_new h0 _
  have z1 : (Ab.newRow h0 [[AV.ptr p 0 0 0]] 1).sz = h0.sz + 1 := rfl
  generalize Ab.newRow h0 [[AV.ptr p 0 0 0]] 1 = h1 at *
  have A2 : allocV h1 [AV.nilSlc, .nilSlc, .nilSlc, .nilSlc] = some (.ptr h1.sz 0 0 0, Ab.newRow h1 [[AV.nilSlc, .nilSlc, .nilSlc, .nilSlc]] 4) := alloc_eq (by decide) rfl
  rw [p_of A2]
  have e2 := ext_newRow o1 [[AV.nilSlc, .nilSlc, .nilSlc, .nilSlc]] 4
  have o2 := ok_newRow o1 [[AV.nilSlc, .nilSlc, .nilSlc, .nilSlc]] 4
  have V2 : Var (Ab.newRow h1 [[AV.nilSlc, .nilSlc, .nilSlc, .nilSlc]] 4) h1.sz [.nilSlc, .nilSlc, .nilSlc, .nilSlc] := var_new h1 _
  have z2 : (Ab.newRow h1 [[AV.nilSlc, .nilSlc, .nilSlc, .nilSlc]] 4).sz = h1.sz + 1 := rfl
  generalize Ab.newRow h1 [[AV.nilSlc, .nilSlc, .nilSlc, .nilSlc]] 4 = h2 at *
  have A3 : allocV h2 [AV.nilSlc, .nilSlc, .nilSlc, .nilSlc] = some (.ptr h2.sz 0 0 0, Ab.newRow h2 [[AV.nilSlc, .nilSlc, .nilSlc, .nilSlc]] 4) := alloc_eq (by decide) rfl
  rw [p_of A3]
  have e3 := ext_newRow o2 [[AV.nilSlc, .nilSlc, .nilSlc, .nilSlc]] 4
  have o3 := ok_newRow o2 [[AV.nilSlc, .nilSlc, .nilSlc, .nilSlc]] 4
  have V3 : Var (Ab.newRow h2 [[AV.nilSlc, .nilSlc, .nilSlc, .nilSlc]] 4) h2.sz (fn4 fun _ => .nilSlc) := var_new h2 _
  have z3 : (Ab.newRow h2 [[AV.nilSlc, .nilSlc, .nilSlc, .nilSlc]] 4).sz = h2.sz + 1 := rfl
  generalize Ab.newRow h2 [[AV.nilSlc, .nilSlc, .nilSlc, .nilSlc]] 4 = h3 at *
  have W1 : Var h3 h0.sz [.ptr p 0 0 0] := V1.ext (e2.trans e3)
  rw [o_of (show loadA h3 false 1 (.ptr h0.sz 0 0 0) = some (.ptr p 0 0 0) by rw [W1.load]; rfl), o_nilck, o_fadr0]
  have E3 := e1.trans (e2.trans e3)
  have S3 := S.ext E3
  rw [o_of (l0 S3.var)]
  obtain ⟨h4, r1, r2, r3, r4, r5⟩ := S3.map.range' o3
  rw [p_of r1]
  have y1 : h1.sz = h0.sz + 1 := z1
  have y2 : h2.sz = h0.sz + 2 := by omega
  have y3 : h3.sz = h0.sz + 3 := by omega
  rw [y1, y2, y3]
  rw [y1] at V2
  rw [y2] at V3
  rw [y3] at r5
  refine l23b (n := n) S k0 hc (fun h f done hd e I => ?_) (n + 2) h4 (fun _ => .nilSlc) [] r5 (E3.trans r2) ⟨V1.ext (e2.trans (e3.trans r2)), V2.ext (e3.trans r2), V3.ext r2, ⟨fun i _ => Own.nil _ _ _, fun i _ j q => absurd q inRow_nil, fun i k _ _ _ j q => absurd q inRow_nil⟩, r3, by omega⟩ (Nat.zero_le _) (by simp; omega)
  unfold p23_19
  rw [o_of (show loadA h true 4 (.ptr (h0.sz + 2) 0 0 0) = some (.agg (fn4 f)) by rw [I.x3.load]; rfl)]
  refine l23a (n := n) S k0 hc (fun h f e I => ?_) (n + 2) 0 h f done hd e ?_ (by omega) (by omega)
  · unfold p23_36
    rw [o_of (show loadA h true 4 (.ptr (h0.sz + 2) 0 0 0) = some (.agg (fn4 f)) by rw [I.x3.load]; rfl)]
    have lf : ∀ i, i < 4 → (f i).leaf = true := fun i hi => (I.outs.own i hi).view.leaf
    have al : allLeaf (fn4 f) = true := by simp only [fn4, allLeaf, lf 0 (by omega), lf 1 (by omega), lf 2 (by omega), lf 3 (by omega), cond_true]
    rw [u_of (I.x2.store (n := 4) (off := 0) (v := .agg (fn4 f)) rfl (show 4 ≤ 4 by omega) al)]
    have hlay : lay [AV.nilSlc, .nilSlc, .nilSlc, .nilSlc] 0 (AV.agg (fn4 f)).cells = fn4 f := rfl
    rw [hlay]
    have f5 := Fr.put (X := fun j => j = h0.sz + 1) rfl h (.row (VRow (fn4 f)))
    have o5 := I.ok.put (I.x2.lt I.ok) (.row (VRow (fn4 f)))
    have X5 : Var (h.put (h0.sz + 1) (.row (VRow (fn4 f)))) (h0.sz + 1) (fn4 f) := var_put _ _
    generalize h.put (h0.sz + 1) (.row (VRow (fn4 f))) = h5 at *
    have R : resV h5 [(.ptr (h0.sz + 1) 0 0 0, some (true, 4))] = some [.agg (fn4 f)] := by
      simp only [resV, X5.load]; rfl
    rw [R, optR_some, oneOf_one]
    have U := I.outs.fr f5 fun i hi j q q' => by have := I.outs.hi i hi j q; omega
    exact k h5 f (f5.ext e k0 fun j q => by omega) o5 ⟨U.own, fun i hi j q => by have := U.hi i hi j q; omega, U.dis⟩
  · exact ⟨I.w, I.x2, I.x3, ⟨fun i hi => by rw [if_neg (Nat.not_lt_zero i)]; exact I.outs.own i hi, I.outs.hi, I.outs.dis⟩, I.ok, I.sz⟩
end Go.Proofs.Ytflpfelalockgaa
