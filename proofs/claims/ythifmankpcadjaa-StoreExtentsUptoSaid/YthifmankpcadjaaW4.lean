/-
  Texts that the claim hangs on, part 5.
-/
import Derived.Test.YthifmankpcadjaaW3
import Derived.Test.YthifmankpcadjaaRows
import Derived.KernelRfl
namespace Go.Ab
set_option linter.unusedSimpArgs false
set_option linter.unusedVariables false
abbrev Str := List Nat
structure But (x : Nat) (h h' : AHeap) : Prop where
  sz : h.sz ≤ h'.sz
  keep : ∀ j o, j ≠ x → h.get j = some o → h'.get j = some o
theorem But.put (x : Nat) (h : AHeap) (o : AObj) : But x h (h.put x o) := ⟨by simp, fun j o' e hj => by rw [AHeap.get_put, if_neg e]; exact hj⟩
theorem But.ext {x : Nat} {h0 h h' : AHeap} (p : But x h h') (e : Ext h0 h) (k0 : h0.Ok) (hx : h0.sz ≤ x) : Ext h0 h' :=
  ⟨Nat.le_trans e.1 p.sz, fun j o hj => p.keep j o (by have := k0.lt hj; omega) (e.2 j o hj)⟩
theorem But.var {x j : Nat} {h h' : AHeap} {c : List AV} (p : But x h h') (V : Var h j c) (e : j ≠ x) : Var h' j c := by
  have V' : h.row j = some (VRow c) := V
  show h'.row j = _
  rw [AHeap.row_some] at V' ⊢
  exact p.keep j _ e V'
theorem get_push_same (h : AHeap) (o : AObj) : (h.push o).get h.sz = some o := by rw [AHeap.get_push, if_pos rfl]
theorem same_int (k : IntKind) (a : Int) : AV.same (.int k a) (.int k a) = true := by
  simp only [AV.same, Nat.beq_refl, Bool.true_and]; rw [ieqb_dec]; simp
theorem same_str (s : Str) : AV.same (.str s) (.str s) = true := by
  simp only [AV.same]; rw [leqb_dec]; simp
theorem same_slc (a b c d e : Nat) (f : Bool) : AV.same (.slc a b c d e f) (.slc a b c d e f) = true := by
  simp only [AV.same, Nat.beq_refl, Bool.and_self, Bool.true_and]; cases f <;> rfl
theorem o_fadr0 (off a b c : Nat) (k : AV → Bool) : optB (fadrA off (.ptr a b c 0)) k = k (.ptr a b c off) := by rw [fadrA_ptr, Nat.zero_add]; rfl
theorem o_lss (K : IntKind) (a b : Int) (k : AV → Bool) : optB (binA .lss (.int K a) (.int K b)) k = k (.bool (decide (a < b))) := by rw [binA_lss]; rfl
theorem o_gtr (K : IntKind) (a b : Int) (k : AV → Bool) : optB (binA .gtr (.int K a) (.int K b)) k = k (.bool (decide (b < a))) := by rw [binA_gtr]; rfl
theorem o_leq (K : IntKind) (a b : Int) (k : AV → Bool) : optB (binA .leq (.int K a) (.int K b)) k = k (.bool (decide (a ≤ b))) := by rw [binA_leq]; rfl
theorem o_geq (K : IntKind) (a b : Int) (k : AV → Bool) : optB (binA .geq (.int K a) (.int K b)) k = k (.bool (decide (b ≤ a))) := by rw [binA_geq]; rfl
theorem o_eql (K : IntKind) (a b : Int) (k : AV → Bool) : optB (binA .eql (.int K a) (.int K b)) k = k (.bool (decide (a = b))) := by rw [binA_eql]; rfl
theorem o_neq (K : IntKind) (a b : Int) (k : AV → Bool) : optB (binA .neq (.int K a) (.int K b)) k = k (.bool (!decide (a = b))) := by rw [binA_neq]; rfl
theorem nat64 {a b : Nat} (h : a + b < lim) : binA .add (.int .i64 (a : Int)) (.int .i64 (b : Int)) = some (.int .i64 ((a + b : Nat) : Int)) := by
  have h' : a + b < 4611686018427387904 := h
  rw [add64 (by omega) (by omega)]; rfl
theorem natsub64 {a b : Nat} (h : b ≤ a) (h2 : a < lim) : binA .sub (.int .i64 (a : Int)) (.int .i64 (b : Int)) = some (.int .i64 ((a - b : Nat) : Int)) := by
  have h' : a < 4611686018427387904 := h2
  rw [sub64 (by omega) (by omega)]; congr 2; omega
def encB (s : Str) : List (List AV) := s.map fun (b : Nat) => [AV.int .u8 (b : Int)]
theorem bytesOf_enc : ∀ (s : Str), (∀ b ∈ s, b < 256) → bytesOf (encB s) = some s
  | [], _ => rfl
  | b :: s, h => by
    show bytesOf ([AV.int .u8 (.ofNat b)] :: encB s) = _
    simp only [bytesOf, bytesOf_enc s (fun c hc => h c (List.mem_cons_of_mem _ hc)), nblt_true.2 (h b List.mem_cons_self), cond_true]
theorem View.atE {h : AHeap} {n : Nat} {v : AV} {es : List (List AV)} (V : View h n v es) {i : Nat} {e : List AV} (hi : es[i]? = some e) :
    ∃ id g j, ∀ h', Ext h h' → (∀ k, iadrA h' n v (.int k (i : Int)) = some (.ptr id g j 0)) ∧ ∀ ag off m, loadA h' ag m (.ptr id g j off) = partA ag off m e := by
  rcases V with ⟨rfl, _⟩ | ⟨id, g, s, cap, ex, r, rfl, h2, h3, h4, h5, h6⟩
  · simp at hi
  · have hlt : i < es.length := (List.getElem?_eq_some_iff.1 hi).1
    refine ⟨id, g, s + i, fun h' e' => ?_⟩
    have h2' := e'.row h2
    refine ⟨fun k => ?_, fun ag off m => ?_⟩
    · have : rowSz h' id n = true := by simp only [rowSz, h2', nbeq_true]; exact h4
      simp only [iadrA, asNat_nat, nblt_true.2 hlt, this, Bool.and_self, cond_true]
    · have hn : nth r.es (s + i) = some e := by
        rw [nth_eq]
        rw [← h5, List.getElem?_take] at hi
        simp only [hlt, if_true, List.getElem?_drop] at hi
        exact hi
      simp only [loadA, h2', nble_true.2 h3, cond_true, hn]
end Go.Ab
namespace Go.Ab
set_option linter.unusedSimpArgs false
set_option linter.unusedVariables false
structure Fr (X : Nat → Prop) (h h' : AHeap) : Prop where
  sz : h.sz ≤ h'.sz
  keep : ∀ j o, ¬ X j → h.get j = some o → h'.get j = some o
section
variable {X Y : Nat → Prop} {h h' h'' h0 : AHeap}
theorem Fr.refl (X : Nat → Prop) (h : AHeap) : Fr X h h := ⟨Nat.le_refl _, fun _ _ _ e => e⟩
theorem Fr.trans (p : Fr X h h') (q : Fr X h' h'') : Fr X h h'' := ⟨Nat.le_trans p.sz q.sz, fun j o e g => q.keep j o e (p.keep j o e g)⟩
theorem Fr.mono (p : Fr X h h') (i : ∀ j, X j → Y j) : Fr Y h h' := ⟨p.sz, fun j o e g => p.keep j o (fun x => e (i j x)) g⟩
theorem Fr.of_ext (e : Ext h h') : Fr X h h' := ⟨e.1, fun j o _ g => e.2 j o g⟩
theorem Fr.put {id : Nat} (hx : X id) (h : AHeap) (o : AObj) : Fr X h (h.put id o) := ⟨by simp, fun j o' e g => by rw [AHeap.get_put, if_neg (fun e' => e (by rw [e']; exact hx))]; exact g⟩
theorem Fr.of_but {id : Nat} (hx : X id) (b : But id h h') : Fr X h h' := ⟨b.sz, fun j o e g => b.keep j o (fun e' => e (by rw [e']; exact hx)) g⟩
theorem Fr.ext (p : Fr X h h') (e : Ext h0 h) (k0 : h0.Ok) (hx : ∀ j, X j → h0.sz ≤ j) : Ext h0 h' :=
  ⟨Nat.le_trans e.1 p.sz, fun j o hj => p.keep j o (fun x => by have := k0.lt hj; have := hx j x; omega) (e.2 j o hj)⟩
theorem Fr.new (p : Fr X h h') (q : Fr (fun j => X j ∨ h.sz ≤ j) h' h'') (k : h.Ok) : Fr X h h'' :=
  ⟨Nat.le_trans p.sz q.sz, fun j o e g => q.keep j o (fun x => by rcases x with x | x; exact e x; have := k.lt g; omega) (p.keep j o e g)⟩
theorem Fr.row {j : Nat} {r : Row} (p : Fr X h h') (e : ¬ X j) (g : h.row j = some r) : h'.row j = some r := by
  rw [AHeap.row_some] at *; exact p.keep j _ e g
theorem Fr.var {j : Nat} {c : List AV} (p : Fr X h h') (V : Var h j c) (e : ¬ X j) : Var h' j c := p.row e V
theorem Fr.view {n : Nat} {v : AV} {es : List (List AV)} (p : Fr X h h') (V : View h n v es) (e : ∀ id g s l c ex, v = .slc id g s l c ex → ¬ X id) : View h' n v es := by
  rcases V with h1 | ⟨id, g, s, cap, ex, r, rfl, h2, h3⟩
  · exact .inl h1
  · exact .inr ⟨id, g, s, cap, ex, r, rfl, p.row (e _ _ _ _ _ _ rfl) h2, h3⟩
end
section
variable {κ : Type}
def lk [DecidableEq κ] : List (κ × AV) → κ → Option AV
  | [], _ => none
  | p :: t, k => if k = p.1 then some p.2 else lk t k
def up [DecidableEq κ] : List (κ × AV) → κ → AV → List (κ × AV)
  | [], k, v => [(k, v)]
  | p :: t, k, v => if k = p.1 then (k, v) :: t else p :: up t k v
structure Keys [DecidableEq κ] (kk : KK) (ek : κ → AV) : Prop where
  fits : ∀ k, fitsKK kk (ek k) = true
  eq : ∀ a b, keyEq (ek a) (ek b) = some (decide (a = b))
def strKey : Str → AV := .str
def intKey : Int → AV := .int .i64
theorem strKeys : Keys (.leaf .str) strKey := ⟨fun _ => rfl, keyEq_str⟩
theorem intKeys : Keys (.leaf .int) intKey := ⟨fun _ => rfl, fun a b => by simp only [intKey, keyEq, leafEq, Nat.beq_refl, cond_true, ieqb_dec]⟩
inductive Ents (ek : κ → AV) : List (AV × AV × Nat) → List (κ × AV) → Prop
  | nil : Ents ek [] []
  | cons {k : κ} {v : AV} {b : Nat} {es : List (AV × AV × Nat)} {l : List (κ × AV)} (t : Ents ek es l) : Ents ek ((ek k, v, b) :: es) ((k, v) :: l)
structure KMapE (ek : κ → AV) (h : AHeap) (id : Nat) (es : List (AV × AV × Nat)) (c : Nat) (l : List (κ × AV)) : Prop where
  get : h.get id = some (.map es c)
  ents : Ents ek es l
  born : ∀ e ∈ es, e.2.2 < c
  nd : (es.map fun e => e.2.2).Nodup
  keys : (l.map fun p => p.1).Nodup
def KMap (ek : κ → AV) (h : AHeap) (id : Nat) (l : List (κ × AV)) : Prop := ∃ es c, KMapE ek h id es c l
variable {kk : KK} {ek : κ → AV} {h h' : AHeap} {id : Nat} {l : List (κ × AV)}
theorem lk_none [DecidableEq κ] {l : List (κ × AV)} {k : κ} : lk l k = none ↔ k ∉ l.map fun p => p.1 := by
  induction l with
  | nil => simp [lk]
  | cons p t ih =>
    simp only [lk, List.map_cons, List.mem_cons, not_or]
    by_cases e : k = p.1
    · simp [e]
    · simp [e, ih]
theorem lk_some [DecidableEq κ] {l : List (κ × AV)} {k : κ} {v : AV} (hn : (l.map fun p => p.1).Nodup) : lk l k = some v ↔ (k, v) ∈ l := by
  induction l with
  | nil => simp [lk]
  | cons p t ih =>
    obtain ⟨a, b⟩ := p
    simp only [List.map_cons, List.nodup_cons] at hn
    simp only [lk, List.mem_cons, Prod.mk.injEq]
    by_cases e : k = a
    · subst e
      simp only [if_true, Option.some.injEq]
      constructor
      · intro e; subst e; exact .inl ⟨by simp, rfl⟩
      · rintro (⟨_, e⟩ | hm)
        · exact e.symm
        · exact absurd (List.mem_map.2 ⟨_, hm, rfl⟩) hn.1
    · rw [if_neg e, ih hn.2]
      constructor
      · exact .inr
      · rintro (⟨e', _⟩ | hm)
        · exact absurd e' e
        · exact hm
theorem up_keys [DecidableEq κ] {k : κ} {v : AV} : ∀ {l : List (κ × AV)}, (l.map fun p => p.1).Nodup → ((up l k v).map fun p => p.1).Nodup ∧ ∀ x, x ∈ (up l k v).map (fun p => p.1) → x = k ∨ x ∈ l.map fun p => p.1
  | [], _ => by simp [up]
  | p :: t, hn => by
    simp only [List.map_cons, List.nodup_cons] at hn
    obtain ⟨i1, i2⟩ := up_keys (k := k) (v := v) hn.2
    simp only [up]
    by_cases e : k = p.1
    · rw [if_pos e]
      subst e
      exact ⟨by simp only [List.map_cons, List.nodup_cons]; exact hn, fun x hx => .inr (by simpa using hx)⟩
    · rw [if_neg e]
      refine ⟨?_, fun x hx => ?_⟩
      · simp only [List.map_cons, List.nodup_cons]
        refine ⟨fun hm => ?_, i1⟩
        rcases i2 _ hm with e' | hm
        · exact e e'.symm
        · exact hn.1 hm
      · simp only [List.map_cons, List.mem_cons] at hx ⊢
        rcases hx with hx | hx
        · exact .inr (.inl hx)
        · rcases i2 x hx with hx | hx
          · exact .inl hx
          · exact .inr (.inr hx)
theorem Ents.find [DecidableEq κ] (K : Keys kk ek) (k : κ) {es : List (AV × AV × Nat)} {l : List (κ × AV)} (E : Ents ek es l) : findE (ek k) es = some (lk l k) := by
  induction E with
  | nil => rfl
  | cons t ih =>
    rename_i k' v b es l
    simp only [findE, K.eq, lk]
    by_cases e : k = k'
    · rw [decide_eq_true e, if_pos e]
    · rw [decide_eq_false e, if_neg e]; exact ih
theorem Ents.set [DecidableEq κ] (K : Keys kk ek) (k : κ) (v : AV) {es : List (AV × AV × Nat)} {l : List (κ × AV)} (E : Ents ek es l) (hs : lk l k ≠ none) : Ents ek (setE (ek k) v es) (up l k v) ∧ (setE (ek k) v es).map (fun e => e.2.2) = es.map fun e => e.2.2 := by
  induction E with
  | nil => exact absurd rfl hs
  | cons t ih =>
    rename_i k' v' b es l
    simp only [setE, K.eq, up]
    simp only [lk] at hs
    by_cases e : k = k'
    · rw [decide_eq_true e, if_pos e]
      exact ⟨.cons t, rfl⟩
    · rw [if_neg e] at hs
      rw [decide_eq_false e, if_neg e]
      obtain ⟨i1, i2⟩ := ih hs
      exact ⟨.cons i1, by simp only [List.map_cons, i2]⟩
theorem Ents.add [DecidableEq κ] {k : κ} {v : AV} {c : Nat} {es : List (AV × AV × Nat)} {l : List (κ × AV)} (E : Ents ek es l) (hs : lk l k = none) : Ents ek (es ++ [(ek k, v, c)]) (up l k v) := by
  induction E with
  | nil => exact .cons .nil
  | cons t ih =>
    rename_i k' v' b es l
    simp only [lk] at hs
    simp only [up, List.cons_append]
    by_cases e : k = k'
    · rw [if_pos e] at hs; cases hs
    · rw [if_neg e] at hs ⊢
      exact .cons (ih hs)
theorem Ents.length {es : List (AV × AV × Nat)} {l : List (κ × AV)} (E : Ents ek es l) : es.length = l.length := by
  induction E with
  | nil => rfl
  | cons t ih => simp [ih]
theorem kmap_new (h : AHeap) : mkmapV h = some (.map h.sz, h.push (.map [] 0)) ∧ KMap ek (h.push (.map [] 0)) h.sz ([] : List (κ × AV)) :=
  ⟨rfl, [], 0, by rw [AHeap.get_push, if_pos rfl], .nil, by simp, by simp, by simp⟩
theorem KMap.lt (M : KMap ek h id l) (k : h.Ok) : id < h.sz := by obtain ⟨es, c, m⟩ := M; exact k.lt m.get
theorem KMap.keys (M : KMap ek h id l) : (l.map fun p => p.1).Nodup := by obtain ⟨es, c, m⟩ := M; exact m.keys
theorem Fr.kmap {X : Nat → Prop} (p : Fr X h h') (M : KMap ek h id l) (e : ¬ X id) : KMap ek h' id l := by
  obtain ⟨es, c, m⟩ := M
  exact ⟨es, c, p.keep _ _ e m.get, m.ents, m.born, m.nd, m.keys⟩
theorem KMap.look [DecidableEq κ] (M : KMap ek h id l) (K : Keys kk ek) (z : AV) (k : κ) : lookA h kk false z (.map id) (ek k) = some ((lk l k).getD z) := by
  obtain ⟨es, c, m⟩ := M
  simp only [lookA, K.fits, cond_true, mapOf, m.get, m.ents.find K]
  cases lk l k <;> rfl
theorem KMap.look2 [DecidableEq κ] (M : KMap ek h id l) (K : Keys kk ek) (z : AV) (k : κ) : lookA h kk true z (.map id) (ek k) = some (.tup [(lk l k).getD z, .bool (lk l k).isSome]) := by
  obtain ⟨es, c, m⟩ := M
  simp only [lookA, K.fits, cond_true, mapOf, m.get, m.ents.find K]
  cases lk l k <;> rfl
theorem KMap.len (M : KMap ek h id l) : lenA h 2 (.map id) = some (.int .i64 (l.length : Int)) := by
  obtain ⟨es, c, m⟩ := M
  simp only [lenA, m.get, m.ents.length]; rfl
theorem KMap.upd [DecidableEq κ] (M : KMap ek h id l) (K : Keys kk ek) (k : κ) (v : AV) : ∃ h', mupdA h kk (.map id) (ek k) v = some h' ∧ But id h h' ∧ h'.sz = h.sz ∧ (h.Ok → h'.Ok) ∧ KMap ek h' id (up l k v) := by
  obtain ⟨es, c, m⟩ := M
  have hid := m.get
  cases hl : lk l k with
  | none =>
    refine ⟨h.put id (.map (es ++ [(ek k, v, c)]) (c + 1)), ?_, But.put _ _ _, by simp, fun o => o.put (o.lt m.get) _, es ++ [(ek k, v, c)], c + 1, by rw [AHeap.get_put, if_pos rfl], m.ents.add hl, ?_, ?_, (up_keys m.keys).1⟩
    · simp only [mupdA, K.fits, cond_true, m.get, m.ents.find K, hl]
    · intro e he
      rcases List.mem_append.1 he with he | he
      · have := m.born e he; omega
      · simp only [List.mem_singleton] at he; subst he; simp
    · rw [List.map_append, List.nodup_append]
      refine ⟨m.nd, by simp, fun a ha b hb => ?_⟩
      obtain ⟨e, he, rfl⟩ := List.mem_map.1 ha
      have := m.born e he
      simp at hb; omega
  | some u =>
    obtain ⟨i1, i2⟩ := m.ents.set K k v (by rw [hl]; exact fun e => by cases e)
    refine ⟨h.put id (.map (setE (ek k) v es) c), ?_, But.put _ _ _, by simp, fun o => o.put (o.lt m.get) _, setE (ek k) v es, c, by rw [AHeap.get_put, if_pos rfl], i1, ?_, by rw [i2]; exact m.nd, (up_keys m.keys).1⟩
    · simp only [mupdA, K.fits, cond_true, m.get, m.ents.find K, hl]
    · intro e he
      have : e.2.2 ∈ (setE (ek k) v es).map fun e => e.2.2 := List.mem_map.2 ⟨e, he, rfl⟩
      rw [i2] at this
      obtain ⟨e', he', heq⟩ := List.mem_map.1 this
      rw [← heq]; exact m.born e' he'
end
end Go.Ab
namespace Go.Ab
set_option linter.unusedSimpArgs false
set_option linter.unusedVariables false
section
variable {k : AV → Bool} {K : Kont} {v u : AV} {h h' : AHeap} {o : Option AV} {p : Option (AV × AHeap)} {q : Option AHeap} {a b : Bool} {r : Kont → Bool}
theorem z_some (s : k v = true) : optB (some v) k = true := s
theorem z_of (e : o = some v) (s : k v = true) : optB o k = true := by subst e; exact s
theorem z_p (e : p = some (v, h)) (s : K v h = true) : optP p K = true := by subst e; exact s
theorem z_u (e : q = some h) (s : K (.tup []) h = true) : optP (unit q) K = true := by subst e; exact s
theorem z_nil {x y z w : Nat} (s : k (.ptr x y z w) = true) : optB (nilckA (.ptr x y z w)) k = true := s
theorem z_fadr {f x y z : Nat} (s : k (.ptr x y z f) = true) : optB (fadrA f (.ptr x y z 0)) k = true := by rw [o_fadr0]; exact s
theorem z_ext0 {l : List AV} (s : k v = true) : optB (extA 0 (.tup (v :: l))) k = true := s
theorem z_ext1 {l : List AV} (s : k u = true) : optB (extA 1 (.tup (v :: u :: l))) k = true := s
theorem z_notT (s : k (.bool false) = true) : optB (notA (.bool true)) k = true := s
theorem z_notF (s : k (.bool true) = true) : optB (notA (.bool false)) k = true := s
theorem z_ct {c : Bool} (e : c = true) (s : a = true) : condB (.bool c) a b = true := by subst e; exact s
theorem z_cf {c : Bool} (e : c = false) (s : b = true) : condB (.bool c) a b = true := by subst e; exact s
theorem z_cT (s : a = true) : condB (.bool true) a b = true := s
theorem z_cF (s : b = true) : condB (.bool false) a b = true := s
theorem z_gtt (s : optB o k = true) : optB (grdO (wantV (.bool true) true) o) k = true := s
theorem z_gff (s : optB o k = true) : optB (grdO (wantV (.bool false) false) o) k = true := s
theorem z_gtf (s : k (.tup []) = true) : optB (grdO (wantV (.bool true) false) o) k = true := s
theorem z_gft (s : k (.tup []) = true) : optB (grdO (wantV (.bool false) true) o) k = true := s
theorem z_rtt (s : r K = true) : grdC (wantV (.bool true) true) r h K = true := s
theorem z_rff (s : r K = true) : grdC (wantV (.bool false) false) r h K = true := s
theorem z_rtf (s : K (.tup []) h = true) : grdC (wantV (.bool true) false) r h K = true := s
theorem z_rft (s : K (.tup []) h = true) : grdC (wantV (.bool false) true) r h K = true := s
theorem z_kt (s : k v = true) : optB (pickV (.bool true) v u) k = true := s
theorem z_kf (s : k u = true) : optB (pickV (.bool false) v u) k = true := s
theorem z_lss {J : IntKind} {x y : Int} (s : k (.bool (decide (x < y))) = true) : optB (binA .lss (.int J x) (.int J y)) k = true := by rw [o_lss]; exact s
theorem z_gtr {J : IntKind} {x y : Int} (s : k (.bool (decide (y < x))) = true) : optB (binA .gtr (.int J x) (.int J y)) k = true := by rw [o_gtr]; exact s
theorem z_leq {J : IntKind} {x y : Int} (s : k (.bool (decide (x ≤ y))) = true) : optB (binA .leq (.int J x) (.int J y)) k = true := by rw [o_leq]; exact s
theorem z_geq {J : IntKind} {x y : Int} (s : k (.bool (decide (y ≤ x))) = true) : optB (binA .geq (.int J x) (.int J y)) k = true := by rw [o_geq]; exact s
theorem z_eql {J : IntKind} {x y : Int} (s : k (.bool (decide (x = y))) = true) : optB (binA .eql (.int J x) (.int J y)) k = true := by rw [o_eql]; exact s
theorem z_neq {J : IntKind} {x y : Int} (s : k (.bool (!decide (x = y))) = true) : optB (binA .neq (.int J x) (.int J y)) k = true := by rw [o_neq]; exact s
theorem z_seq {x y : Str} (s : k (.bool (decide (x = y))) = true) : optB (binA .eql (.str x) (.str y)) k = true := by rw [binA_seql]; exact s
theorem z_slen {x : Str} (s : k (.int .i64 (x.length : Int)) = true) : optB (lenA h 0 (.str x)) k = true := s
theorem z_same (e : o = some u) (j : AV.same u u = true) (s : a = true) : sameB o u a = true := by subst e; simp only [sameB, j, cond_true, s]
theorem z_cv {call : CallFn} {f : AFn} {first args cap : List AV} (s : call f (first ++ args ++ cap) h K = true) : callV call (.fn f first cap) args h K = true := s
theorem z_eqp {a1 a2 a3 a4 : Nat} (s : k (.bool false) = true) : optB (eqV h false EqK.ptr (.ptr a1 a2 a3 a4) .nilPtr) k = true := s
theorem z_eqn (s : k (.bool true) = true) : optB (eqV h false EqK.ptr .nilPtr .nilPtr) k = true := s
end
theorem same_map (a : Nat) : AV.same (.map a) (.map a) = true := by simp only [AV.same, Nat.beq_refl]
theorem same_agg {l : List AV} (h : sames l l = true) : AV.same (.agg l) (.agg l) = true := by simpa only [AV.same] using h
theorem same_nslc : AV.same .nilSlc .nilSlc = true := by simp only [AV.same]
theorem same_emp : AV.same .emp .emp = true := by simp only [AV.same]
theorem View.same {h : AHeap} {n : Nat} {v : AV} {es : List (List AV)} (V : View h n v es) : AV.same v v = true := by
  rcases V with ⟨_, e | e⟩ | ⟨id, g, s, cap, ex, r, rfl, _⟩
  · subst e; exact same_nslc
  · subst e; exact same_emp
  · exact same_slc _ _ _ _ _ _
section
variable {h h' : AHeap} {id : Nat} {c : List AV}
theorem Var.get (V : Var h id c) {off : Nat} {v : AV} (e : nth c off = some v) : loadA h false 1 (.ptr id 0 0 off) = some v := by
  rw [V.load, partA_false]; exact e
theorem Var.all (V : Var h id c) {n : Nat} (e : c.length = n) : loadA h true n (.ptr id 0 0 0) = some (.agg c) := by
  subst e
  rw [V.load]
  simp [partA, nble_true.2 (Nat.le_refl _)]
theorem alloc_v {z : List AV} (o : h.Ok) (h1 : 0 < z.length) (h2 : allLeaf z = true) : ∃ h', allocV h z = some (.ptr h.sz 0 0 0, h') ∧ Var h' h.sz z ∧ Ext h h' ∧ h'.Ok ∧ h'.sz = h.sz + 1 :=
  ⟨_, alloc_eq h1 h2, var_new h z, ext_newRow o _ _, ok_newRow o _ _, rfl⟩
theorem box_v {n : Nat} {v : AV} (o : h.Ok) (h0 : v.cells.length = n) (h1 : 0 < n) (h2 : allLeaf v.cells = true) : ∃ h', boxA h n v = some (.ptr h.sz 0 0 0, h') ∧ Var h' h.sz v.cells ∧ Ext h h' ∧ h'.Ok ∧ h'.sz = h.sz + 1 := by
  refine ⟨_, box_eq h0 h1 h2, ?_, ext_newRow o _ _, ok_newRow o _ _, rfl⟩
  have := var_new h v.cells
  rw [h0] at this; exact this
theorem Var.wr (V : Var h id c) (o : h.Ok) {off : Nat} {v : AV} (h1 : off < c.length) (h2 : v.leaf = true) : ∃ h', storeA h 1 (.ptr id 0 0 off) v = some h' ∧ Var h' id (c.set off v) ∧ But id h h' ∧ h'.Ok ∧ h'.sz = h.sz :=
  ⟨_, V.set1 h1 h2, var_put id _, But.put _ _ _, o.put (V.lt o) _, by simp⟩
theorem Var.wrs (V : Var h id c) (o : h.Ok) {n : Nat} {v : AV} (h0 : v.cells.length = n) (h1 : c.length = n) (h2 : allLeaf v.cells = true) : ∃ h', storeA h n (.ptr id 0 0 0) v = some h' ∧ Var h' id v.cells ∧ But id h h' ∧ h'.Ok ∧ h'.sz = h.sz := by
  refine ⟨_, V.store h0 (by omega) h2, ?_, But.put _ _ _, o.put (V.lt o) _, by simp⟩
  have : lay c 0 v.cells = v.cells := by simp [lay]; omega
  rw [this]; exact var_put id _
theorem bslice1_v {sz : Nat} {z : List AV} {v : AV} (o : h.Ok) (h1 : z.length = sz) (h2 : 0 < sz) (h3 : 1 * sz ≤ 16777216) (h4 : allLeaf z = true) (h5 : v.cells.length = sz) (h6 : allLeaf v.cells = true) : ∃ w h', bsliceV h 1 sz z [(0, v)] = some (w, h') ∧ View h' sz w [v.cells] ∧ Ext h h' ∧ h'.Ok ∧ h'.sz = h.sz + 1 ∧ w = .slc h.sz 0 0 1 1 true := by
  refine ⟨.slc h.sz 0 0 1 1 true, Ab.newRow h [v.cells] sz, ?_, .inr ⟨h.sz, 0, 0, 1, true, { es := [v.cells], sz, g := 0, m := 0, rw := true }, rfl, ?_, Nat.le_refl _, rfl, by simp, by simp⟩, ext_newRow o _ _, ok_newRow o _ _, rfl, rfl⟩
  · simp only [bsliceV, nbeq_true.2 h1, nblt_true.2 h2, nble_true.2 h3, h4, Bool.and_self, cond_true, repl, fillRowV, nbeq_true.2 h5, List.length_cons, List.length_nil, h6, setNth]
    rfl
  · rw [AHeap.row_some]; simp only [newRow, AHeap.get_push, if_pos]
end
abbrev SK := Str × Str
def sk (a : SK) : AV := .agg [.str a.1, .str a.2]
theorem sks : Keys (.st [.str, .str]) sk := ⟨fun _ => rfl, fun a b => by
  obtain ⟨a1, a2⟩ := a; obtain ⟨b1, b2⟩ := b
  simp only [sk, keyEq, leavesEq, leafEq, leqb_dec]
  by_cases e1 : a1 = b1 <;> by_cases e2 : a2 = b2 <;> simp [e1, e2]⟩
section
variable {κ : Type} [DecidableEq κ] {kk : KK} {ek : κ → AV} {h h' : AHeap} {id it : Nat} {l : List (κ × AV)}
end
end Go.Ab
namespace Go.Ab
set_option linter.unusedSimpArgs false
set_option linter.unusedVariables false
def inRow (v : AV) (j : Nat) : Prop := ∃ g s l c ex, v = .slc j g s l c ex
theorem inRow_nil {j : Nat} : ¬ inRow .nilSlc j := by rintro ⟨_, _, _, _, _, e⟩; cases e
theorem inRow_slc {i g s l c : Nat} {ex : Bool} {j : Nat} : inRow (.slc i g s l c ex) j ↔ i = j := ⟨fun ⟨_, _, _, _, _, e⟩ => by cases e; rfl, fun e => by subst e; exact ⟨_, _, _, _, _, rfl⟩⟩
theorem app_row {h h' : AHeap} {n bytes : Nat} {nt : Option Nat} {v x v' : AV} (e : appendA h n bytes v x nt = some (v', h')) {j : Nat} (i : inRow v' j) : inRow v j ∨ j = h.sz := by
  unfold appendA at e
  cases hn : Nat.beq n 0 with
  | true => rw [hn] at e; cases e
  | false =>
    rw [hn, cond_false] at e
    split at e
    · cases e
    · rename_i new hs
      unfold appendNew at e
      split at e
      · split at e
        · cases e; exact absurd i inRow_nil
        · cases hc : (Nat.ble (new.length * bytes) most && Nat.ble new.length most) with
          | true => rw [hc] at e; cases e; exact .inr (inRow_slc.1 i).symm
          | false => rw [hc] at e; cases e
      · split at e
        · cases e; obtain ⟨_, _, _, _, _, e⟩ := i; cases e
        · cases hc : (Nat.ble (new.length * bytes) most && Nat.ble new.length most) with
          | true => rw [hc] at e; cases e; exact .inr (inRow_slc.1 i).symm
          | false => rw [hc] at e; cases e
      · rename_i id g st len cap ex
        split at e
        · cases e; exact .inl i
        · split at e
          · cases e
          · rename_i r hr
            revert e
            cases (Nat.ble ((len + new.length) * bytes) most && Nat.ble (len + new.length) most && Nat.beq r.sz n) with
            | false => intro e; cases e
            | true =>
              cases Nat.ble (len + new.length) cap with
              | true =>
                cases (r.rw && Nat.beq g r.g) with
                | true => intro e; cases e; exact .inl (inRow_slc.2 (inRow_slc.1 i))
                | false => intro e; cases e
              | false =>
                cases ex with
                | true =>
                  simp only [cond_true, cond_false]
                  cases Nat.ble r.m g with
                  | false => intro e; cases e
                  | true =>
                    simp only [cond_true]
                    cases Nat.beq (List.take len (List.drop st r.es)).length len with
                    | true => intro e; cases e; exact .inr (inRow_slc.1 i).symm
                    | false => intro e; cases e
                | false =>
                  simp only [cond_true, cond_false]
                  cases (r.rw && Nat.beq g r.g && Nat.beq st 0) with
                  | false => intro e; cases e
                  | true =>
                    simp only [cond_true]
                    cases Nat.beq len r.es.length with
                    | true => intro e; cases e; exact .inl (inRow_slc.2 (inRow_slc.1 i))
                    | false => intro e; cases e; exact .inl (inRow_slc.2 (inRow_slc.1 i))
      · cases e
theorem own_lt {h : AHeap} {n : Nat} {v : AV} {es : List (List AV)} (O : Own 0 h n v es) (o : h.Ok) {j : Nat} (i : inRow v j) : j < h.sz := by
  rcases O with ⟨rfl, _⟩ | ⟨id, r, w1, rfl, w3, _⟩
  · exact absurd i inRow_nil
  · rw [← inRow_slc.1 i]; exact o.lt (AHeap.row_some.1 w3)
theorem own_row {b : Nat} {h : AHeap} {n : Nat} {v : AV} {es : List (List AV)} (O : Own b h n v es) {j : Nat} (i : inRow v j) : b ≤ j := by
  rcases O with ⟨rfl, _⟩ | ⟨id, r, w1, rfl, _⟩
  · exact absurd i inRow_nil
  · rw [← inRow_slc.1 i]; exact w1
theorem own_low {b : Nat} {h : AHeap} {n : Nat} {v : AV} {es : List (List AV)} (O : Own b h n v es) : Own 0 h n v es := by
  rcases O with V | ⟨id, r, w1, w2⟩
  · exact .inl V
  · exact .inr ⟨id, r, Nat.zero_le _, w2⟩
theorem fr_acc {A X : Nat → Prop} {h h1 h2 : AHeap} (o : h.Ok) (F : Fr A h h1) (G : Fr X h1 h2) (hx : ∀ j, X j → A j ∨ h.sz ≤ j) : Fr A h h2 := F.new (G.mono hx) o
theorem ext_two {h h1 h2 : AHeap} (e : Ext h h1) (f : Ext h1 h2) : Ext h h2 := ⟨Nat.le_trans e.1 f.1, fun j o g => f.2 j o (e.2 j o g)⟩
theorem View.at1 {h : AHeap} {n : Nat} {v : AV} {es : List (List AV)} (V : View h n v es) {i : Nat} {e : List AV} (hi : es[i]? = some e) : ∃ id g j, (∀ k, iadrA h n v (.int k (i : Int)) = some (.ptr id g j 0)) ∧ ∀ ag off m, loadA h ag m (.ptr id g j off) = partA ag off m e := by
  obtain ⟨id, g, j, q⟩ := V.atE hi
  exact ⟨id, g, j, q h (Ext.refl h)⟩
end Go.Ab
namespace Go.Proofs.Ythifmankpcadjaa
open Go.Ab
set_option linter.unusedSimpArgs false
set_option linter.unusedVariables false
theorem own_app2 {b : Nat} {h h0 : AHeap} {n bytes : Nat} {v x : AV} {es new : List (List AV)} (O : Own b h n v es) (hn : 0 < n) (hb : b ≤ h.sz) (o : h.Ok) (k0 : h0.Ok) (e0 : Ext h0 h) (hb0 : h0.sz ≤ b) (hs : source h n x = some new) (h1 : (es.length + new.length) * bytes ≤ most) (h2 : es.length + new.length ≤ most) :
    ∃ v' h', appendA h n bytes v x = some (v', h') ∧ Own b h' n v' (es ++ new) ∧ h'.Ok ∧ Ext h0 h' ∧ Fr (inRow v) h h' ∧ (∀ j, inRow v' j → inRow v j ∨ j = h.sz) := by
  obtain ⟨v', h', a1, a2, a3, a4, a5, a6, a7⟩ := O.app hn hb o k0 e0 hb0 hs h1 h2
  exact ⟨v', h', a1, a2, a3, a4, ⟨a5, fun j o' nj g => a6 j o' g fun id g' s l c ex e q => nj ⟨g', s, l, c, ex, by rw [e, q]⟩⟩, fun j i => app_row a1 i⟩
theorem _root_.Go.Ab.VV.sm {h : AHeap} {v : AV} {l : List Val} (V : VV h v l) : AV.same v v = true := by obtain ⟨es, h1, _⟩ := V; exact h1.same
def Kp (lo hi : Nat) (h h' : AHeap) : Prop := ∀ j o, lo ≤ j → j < hi → h.get j = some o → h'.get j = some o
theorem Kp.refl (lo hi : Nat) (h : AHeap) : Kp lo hi h h := fun _ _ _ _ e => e
theorem Kp.trans {lo hi : Nat} {a b c : AHeap} (p : Kp lo hi a b) (q : Kp lo hi b c) : Kp lo hi a c := fun j o l1 l2 e => q j o l1 l2 (p j o l1 l2 e)
theorem Kp.of_ext {lo hi : Nat} {h h' : AHeap} (e : Ext h h') : Kp lo hi h h' := fun j o _ _ g => e.2 j o g
theorem Kp.sub {lo hi lo' hi' : Nat} {h h' : AHeap} (p : Kp lo hi h h') (l1 : lo ≤ lo') (l2 : hi' ≤ hi) : Kp lo' hi' h h' := fun j o a b g => p j o (by omega) (by omega) g
theorem Kp.of_fr {lo hi : Nat} {h h' : AHeap} {X : Nat → Prop} (f : Fr X h h') (d : ∀ j, X j → ¬ (lo ≤ j ∧ j < hi)) : Kp lo hi h h' := fun j o a b g => f.keep j o (fun x => d j x ⟨a, b⟩) g
theorem Kp.of_but {lo hi id : Nat} {h h' : AHeap} (f : But id h h') (d : ¬ (lo ≤ id ∧ id < hi)) : Kp lo hi h h' := fun j o a b g => f.keep j o (fun e => d (by rw [← e]; exact ⟨a, b⟩)) g
def _root_.Go.Ab.Val.ls : Val → List Val
  | .mk _ _ _ _ l => l
def shape (x : Val) (lv : AV) : List AV :=
  match x with
  | .mk k b n t _ => [.int .i64 k, .bool b, .int .i64 n, .str t, lv]
def Ow : Nat → Nat → Nat → AHeap → AV → List Val → Prop
  | 0, _, _, _, v, l => v = .nilSlc ∧ l = []
  | k + 1, lo, hi, h, v, l => ∃ (es : List (List AV)) (reg : Nat → Nat × Nat), Own lo h 5 v es ∧ (∀ j, inRow v j → j < hi) ∧ es.length = l.length ∧
    (∀ i, i < es.length → lo ≤ (reg i).1 ∧ (reg i).2 ≤ hi ∧ ∀ j, inRow v j → ¬ ((reg i).1 ≤ j ∧ j < (reg i).2)) ∧
    (∀ i i', i < i' → i' < es.length → (reg i).2 ≤ (reg i').1) ∧
    ∀ (i : Nat) e x, es[i]? = some e → l[i]? = some x → ∃ lv, e = shape x lv ∧ lv.leaf = true ∧ Ow k (reg i).1 (reg i).2 h lv x.ls
theorem Own.kp {lo hi n : Nat} {h h' : AHeap} {v : AV} {es : List (List AV)} (O : Own lo h n v es) (hr : ∀ j, inRow v j → j < hi) (k : Kp lo hi h h') : Own lo h' n v es := by
  rcases O with O | ⟨id, r, w1, rfl, w3, w4⟩
  · exact .inl O
  · refine .inr ⟨id, r, w1, rfl, ?_, w4⟩
    rw [AHeap.row_some] at w3 ⊢
    exact k id _ w1 (hr id (inRow_slc.2 rfl)) w3
theorem Ow.kp : ∀ {k lo hi : Nat} {h h' : AHeap} {v : AV} {l : List Val}, Ow k lo hi h v l → Kp lo hi h h' → Ow k lo hi h' v l
  | 0, lo, hi, h, h', v, l, O, _ => O
  | k + 1, lo, hi, h, h', v, l, O, q => by
    obtain ⟨es, reg, a1, a2, a3, a4, a5, a6⟩ := O
    refine ⟨es, reg, Own.kp a1 a2 q, a2, a3, a4, a5, fun i e x he hx => ?_⟩
    obtain ⟨lv, b1, b2, b3⟩ := a6 i e x he hx
    have := a4 i (List.getElem?_eq_some_iff.1 he).1
    exact ⟨lv, b1, b2, b3.kp (q.sub this.1 this.2.1)⟩
theorem Own.low {lo lo' n : Nat} {h : AHeap} {v : AV} {es : List (List AV)} (O : Own lo h n v es) (e : lo' ≤ lo) : Own lo' h n v es := by
  rcases O with O | ⟨id, r, w1, w2⟩
  · exact .inl O
  · exact .inr ⟨id, r, Nat.le_trans e w1, w2⟩
theorem Ow.wide : ∀ {k lo hi lo' hi' : Nat} {h : AHeap} {v : AV} {l : List Val}, Ow k lo hi h v l → lo' ≤ lo → hi ≤ hi' → Ow k lo' hi' h v l
  | 0, lo, hi, lo', hi', h, v, l, O, _, _ => O
  | k + 1, lo, hi, lo', hi', h, v, l, O, e1, e2 => by
    obtain ⟨es, reg, a1, a2, a3, a4, a5, a6⟩ := O
    exact ⟨es, reg, Own.low a1 e1, fun j hj => Nat.lt_of_lt_of_le (a2 j hj) e2, a3, fun i hi => ⟨Nat.le_trans e1 (a4 i hi).1, Nat.le_trans (a4 i hi).2.1 e2, (a4 i hi).2.2⟩, a5, a6⟩
structure Gv (l : List Val) (h : AHeap) (lo hi : Nat) (v : AV) : Prop where
  rd : ∀ h', Kp lo hi h h' → VV h' v l
  ow : ∃ k, Ow k lo hi h v l
structure Gx (x : Val) (h : AHeap) (lo hi : Nat) (a : List AV) : Prop where
  rd : ∀ h', Kp lo hi h h' → RV h' a x
  ow : ∃ k lv, a = shape x lv ∧ lv.leaf = true ∧ Ow k lo hi h lv x.ls
theorem Gv.fr {l : List Val} {h h' : AHeap} {lo hi : Nat} {v : AV} (G : Gv l h lo hi v) (k : Kp lo hi h h') : Gv l h' lo hi v := ⟨fun h'' q => G.rd h'' (k.trans q), let ⟨n, O⟩ := G.ow; ⟨n, O.kp k⟩⟩
theorem Gx.fr {x : Val} {h h' : AHeap} {lo hi : Nat} {v : List AV} (G : Gx x h lo hi v) (k : Kp lo hi h h') : Gx x h' lo hi v := ⟨fun h'' q => G.rd h'' (k.trans q), let ⟨n, lv, e, f, O⟩ := G.ow; ⟨n, lv, e, f, O.kp k⟩⟩
theorem Gx.now {x : Val} {h : AHeap} {lo hi : Nat} {v : List AV} (G : Gx x h lo hi v) : RV h v x := G.rd h (Kp.refl _ _ _)
theorem RV.of {h : AHeap} {k n : Int} {b : Bool} {t : Str} {l : List Val} {lv : AV} (V : VV h lv l) (r : (-9223372036854775808 ≤ n ∧ n ≤ 9223372036854775807) ∧ (-9223372036854775808 ≤ k ∧ k ≤ 9223372036854775807) ∧ ∀ x ∈ t, x < 256) : RV h [.int .i64 k, .bool b, .int .i64 n, .str t, lv] (.mk k b n t l) := by
  obtain ⟨es, h1, h2⟩ := V
  simp only [RV]
  exact ⟨lv, es, rfl, h1, RVs.of h2, r⟩
structure Cps (b : Nat) (h : AHeap) (out : AV) (es : List (List AV)) (l : List Val) : Prop where
  own : Own b h 5 out es
  row : ∀ j, inRow out j → j < h.sz
  len : es.length = l.length
  g : ∃ reg : Nat → Nat × Nat, (∀ i, i < es.length → b ≤ (reg i).1 ∧ (reg i).2 ≤ h.sz ∧ ∀ j, inRow out j → ¬ ((reg i).1 ≤ j ∧ j < (reg i).2)) ∧ (∀ i i', i < i' → i' < es.length → (reg i).2 ≤ (reg i').1) ∧ ∀ (i : Nat) (e : List AV) (x : Val), es[i]? = some e → l[i]? = some x → Gx x h (reg i).1 (reg i).2 e
theorem all2_of {α β : Type} {R : α → β → Prop} : ∀ {l : List α} {m : List β}, l.length = m.length → (∀ (i : Nat) a b, l[i]? = some a → m[i]? = some b → R a b) → All2 R l m
  | [], [], _, _ => .nil
  | [], _ :: _, h, _ => by simp at h
  | _ :: _, [], h, _ => by simp at h
  | a :: l, b :: m, h, k => .cons (k 0 a b rfl rfl) (all2_of (by simpa using h) fun i x y h1 h2 => k (i + 1) x y h1 h2)
theorem Ow.up : ∀ {k lo hi : Nat} {h : AHeap} {v : AV} {l : List Val}, Ow k lo hi h v l → Ow (k + 1) lo hi h v l
  | 0, lo, hi, h, v, l, ⟨e1, e2⟩ => by
    subst e1; subst e2
    exact ⟨[], fun _ => (0, 0), .inl ⟨rfl, rfl⟩, fun j i => absurd i inRow_nil, rfl, by simp, by simp, by simp⟩
  | k + 1, lo, hi, h, v, l, O => by
    obtain ⟨es, reg, a1, a2, a3, a4, a5, a6⟩ := O
    exact ⟨es, reg, a1, a2, a3, a4, a5, fun i e x he hx => let ⟨lv, b1, b2, b3⟩ := a6 i e x he hx; ⟨lv, b1, b2, b3.up⟩⟩
theorem all_max {P : Nat → Nat → Prop} (up : ∀ i k, P i k → P i (k + 1)) : ∀ n, (∀ i, i < n → ∃ k, P i k) → ∃ k, ∀ i, i < n → P i k
  | 0, _ => ⟨0, fun i h => by omega⟩
  | n + 1, h => by
    obtain ⟨k, hk⟩ := all_max up n fun i hi => h i (by omega)
    obtain ⟨k', hk'⟩ := h n (by omega)
    have more : ∀ d i q, P i q → P i (q + d) := fun d => by
      induction d with
      | zero => intro i q p; exact p
      | succ d ih => intro i q p; exact up _ _ (ih i q p)
    refine ⟨k + k', fun i hi => ?_⟩
    by_cases e : i = n
    · subst e; rw [Nat.add_comm]; exact more _ _ _ hk'
    · exact more _ _ _ (hk i (by omega))
theorem Cps.gv {b : Nat} {h : AHeap} {out : AV} {es : List (List AV)} {l : List Val} (C : Cps b h out es l) (o : h.Ok) (hb : b ≤ h.sz) : Gv l h b h.sz out := by
  obtain ⟨reg, r1, r2, r3⟩ := C.g
  refine ⟨fun h' k => ⟨es, ?_, all2_of C.len fun i e x h1 h2 => ?_⟩, ?_⟩
  · exact (Own.kp C.own C.row k).view
  · have := r1 i (List.getElem?_eq_some_iff.1 h1).1
    exact (r3 i e x h1 h2).rd h' (k.sub this.1 this.2.1)
  · obtain ⟨K, hK⟩ := all_max (P := fun i k => ∀ e x, es[i]? = some e → l[i]? = some x → ∃ lv, e = shape x lv ∧ lv.leaf = true ∧ Ow k (reg i).1 (reg i).2 h lv x.ls)
      (fun i k p e x he hx => let ⟨lv, b1, b2, b3⟩ := p e x he hx; ⟨lv, b1, b2, b3.up⟩) es.length (fun i hi => by
        obtain ⟨k, lv, e1, e2, e3⟩ := (r3 i _ _ (List.getElem?_eq_getElem hi) (List.getElem?_eq_getElem (by rw [← C.len]; exact hi))).ow
        refine ⟨k, fun e x he hx => ?_⟩
        rw [List.getElem?_eq_getElem hi] at he; cases he
        rw [List.getElem?_eq_getElem (by rw [← C.len]; exact hi)] at hx; cases hx
        exact ⟨lv, e1, e2, e3⟩)
    exact ⟨K + 1, es, reg, C.own, C.row, C.len, r1, r2, fun i e x he hx => hK i (List.getElem?_eq_some_iff.1 he).1 e x he hx⟩
theorem Own.fr {b n : Nat} {X : Nat → Prop} {h h' : AHeap} {v : AV} {es : List (List AV)} (O : Own b h n v es) (f : Fr X h h') (d : ∀ j, inRow v j → ¬ X j) : Own b h' n v es := by
  rcases O with V | ⟨id, r, w1, w2, w3, w4⟩
  · exact .inl V
  · exact .inr ⟨id, r, w1, w2, f.row (d id (by rw [w2]; exact ⟨_, _, _, _, _, rfl⟩)) w3, w4⟩
theorem res1 {a v : AV} {m : Nat} {K : Kont} {h : AHeap} (e : loadA h true m a = some v) (s : K v h = true) : optR (resV h [(a, some (true, m))]) h K = true := by
  have : resV h [(a, some (true, m))] = some [v] := by simp only [resV, e]
  rw [this]; exact s
theorem Cps.fr {b : Nat} {X : Nat → Prop} {h h' : AHeap} {out : AV} {es : List (List AV)} {l : List Val} (C : Cps b h out es l) (f : Fr X h h') (hX : ∀ j, X j → j < b) : Cps b h' out es l := by
  obtain ⟨reg, r1, r2, r3⟩ := C.g
  refine ⟨Own.fr C.own f fun j hj x => by have := hX j x; have := own_row C.own hj; omega, fun j hj => Nat.lt_of_lt_of_le (C.row j hj) f.sz, C.len, reg, fun i hi => ⟨(r1 i hi).1, Nat.le_trans (r1 i hi).2.1 f.sz, (r1 i hi).2.2⟩, r2, fun i e x he hx => ?_⟩
  have := (r1 i (List.getElem?_eq_some_iff.1 he).1).1
  exact (r3 i e x he hx).fr (Kp.of_fr f fun j x q => by have := hX j x; have := q.1; omega)
theorem Cps.nil (b : Nat) (h : AHeap) : Cps b h .nilSlc [] [] := ⟨Own.nil _ _ _, fun j i => absurd i inRow_nil, rfl, fun _ => (0, 0), by simp, by simp, by simp⟩
theorem Cps.push {b : Nat} {h0 h h3 h4 : AHeap} {out : AV} {es : List (List AV)} {l : List Val} {x : Val} {a' : List AV} (C : Cps b h out es l) (o : h.Ok) (k0 : h0.Ok) (e0 : Ext h0 h) (hb0 : h0.sz ≤ b) (hb : b ≤ h.sz) (e3 : Ext h h3) (e4 : Ext h3 h4) (o4 : h4.Ok) (G : Gx x h4 h3.sz h4.sz a') (hl : l.length < 1000000000) :
    ∃ w h5, bsliceV h4 1 5 [.int .i64 0, .bool false, .int .i64 0, .str [], .nilSlc] [(0, .agg a')] = some (w, h5) ∧ Ext h4 h5 ∧ h5.Ok ∧ ∃ out' h6, appendA h5 5 64 out w = some (out', h6) ∧ h6.Ok ∧ Ext h0 h6 ∧ Fr (inRow out) h5 h6 ∧ Cps b h6 out' (es ++ [a']) (l ++ [x]) := by
  have hmo : most = 1099511627776 := rfl
  obtain ⟨f1, f2, f3, f4⟩ := G.now.agg
  obtain ⟨w, h5, b1, b2, e5, o5, z5, _⟩ := bslice1_v (sz := 5) (z := [AV.int .i64 0, .bool false, .int .i64 0, .str [], .nilSlc]) (v := .agg a') o4 rfl (by decide) (by decide) rfl f2 f3
  rw [f4] at b2
  have eh5 := ext_two (ext_two e3 e4) e5
  have e05 := ext_two e0 eh5
  have hEl : es.length = l.length := C.len
  obtain ⟨out', h6, a1, a2, a3, a4, a5, a6⟩ := own_app2 (bytes := 64) (C.own.ext eh5) (by decide) (by have := eh5.1; omega) o5 k0 e05 hb0 b2.src (by rw [hEl]; simp; omega) (by rw [hEl]; simp; omega)
  refine ⟨w, h5, b1, e5, o5, out', h6, a1, a3, a4, a5, ?_⟩
  have lowr : ∀ j, inRow out j → j < h.sz := C.row
  obtain ⟨reg, r1, r2, r3⟩ := C.g
  generalize hi : es.length = i at *
  have s2 := e3.1; have s3 := e4.1; have s4 := e5.1; have s5 := a5.sz; have s6 := eh5.1
  obtain ⟨rg, n1, n2⟩ : ∃ rg : Nat → Nat × Nat, (∀ q, q < i → rg q = reg q) ∧ rg i = (h3.sz, h4.sz) := ⟨fun q => if q < i then reg q else (h3.sz, h4.sz), fun q hq => if_pos hq, if_neg (Nat.lt_irrefl i)⟩
  have hl : (es ++ [a']).length = i + 1 := by simp [hi]
  refine ⟨a2, fun j hj => own_lt (own_low a2) a3 hj, by rw [hl, List.length_append, hEl]; rfl, rg, fun q hq => ?_, fun q q' h1 h2 => ?_, fun i' e' x' he hx => ?_⟩
  · by_cases hq' : q < i
    · rw [n1 q hq']
      obtain ⟨c1, c2, c3⟩ := r1 q (by omega)
      refine ⟨c1, by omega, fun j hj p => ?_⟩
      rcases a6 j hj with q' | q'
      · exact c3 j q' p
      · omega
    · have : q = i := by omega
      subst this
      rw [n2]
      refine ⟨by show b ≤ h3.sz; omega, by show h4.sz ≤ h6.sz; omega, fun j hj p => ?_⟩
      have p1 : h3.sz ≤ j := p.1
      have p2 : j < h4.sz := p.2
      rcases a6 j hj with q' | q'
      · have := lowr j q'; omega
      · omega
  · rw [n1 q (by omega)]
    by_cases hq' : q' < i
    · rw [n1 q' hq']; exact r2 q q' h1 (by omega)
    · have : q' = i := by omega
      subst this
      rw [n2]
      have := (r1 q (by omega)).2.1
      show (reg q).2 ≤ h3.sz
      omega
  by_cases hlt' : i' < i
  · rw [List.getElem?_append_left (by omega)] at he
    rw [List.getElem?_append_left (by omega)] at hx
    rw [n1 i' hlt']
    exact (r3 i' e' x' he hx).fr ((Kp.of_ext eh5).trans (Kp.of_fr a5 (r1 i' (by omega)).2.2))
  · have : i' = i := by
      have := (List.getElem?_eq_some_iff.1 he).1
      omega
    subst this
    rw [List.getElem?_append_right (by omega), hi, Nat.sub_self] at he
    simp at he
    subst he
    rw [List.getElem?_append_right (by omega), ← hEl, Nat.sub_self] at hx
    simp at hx
    subst hx
    rw [n2]
    refine G.fr ((Kp.of_ext e5).trans (Kp.of_fr a5 fun j hj q => ?_))
    have := lowr j hj; have := q.1; omega
end Go.Proofs.Ythifmankpcadjaa
namespace Go.Proofs.Ythifmankpcadjaa
open Go.Ab
set_option linter.unusedSimpArgs false
set_option linter.unusedVariables false
abbrev z5 : List AV := [.int .i64 0, .bool false, .int .i64 0, .str [], .nilSlc]
theorem c57 : ∀ (k n : Nat) {h : AHeap} {a : List AV} {x : Val} {K : Kont}, RV h a x → h.Ok → szV x ≤ k → k + 2 ≤ n → k < 1000000000 → n < lim →
    (∀ h2 a', Ext h h2 → h2.Ok → Gx x h2 h.sz h2.sz a' → K (.agg a') h2 = true) → callN E (n + 1) (.func 57) [.agg a] h K = true := by
  intro k
  induction k with
  | zero => intro n h a x K R ho hk; cases x; simp only [szV] at hk; omega
  | succ k ih =>
    intro n hs a x K R ho hk hn hB hL kk
    have hlm : lim = 4611686018427387904 := rfl
    obtain ⟨g1, g2, g3, g4⟩ := R.agg
    obtain ⟨kd, b, nn, t, ll⟩ := x
    obtain ⟨lv, rfl, VL, rr⟩ := R.cells
    have hsz : szVs ll + 1 ≤ szV (Val.mk kd b nn t ll) := by simp only [szV]; omega
    have hlen := szVs_len ll
    apply d57
    unfold s57
    obtain ⟨h1, q1, V1, e1, o1, z1⟩ := box_v (n := 5) ho g2 (by decide) g3
    rw [g4] at V1
    refine z_p q1 ?_
    obtain ⟨h2, q2, V2, e2, o2, z2⟩ := alloc_v (z := [AV.int .i64 0, .bool false, .int .i64 0, .str [], .nilSlc]) o1 (by decide) rfl
    refine z_p q2 ?_
    have V1 := V1.ext e2
    have A4 : loadA h2 false 1 (.ptr hs.sz 0 0 4) = some lv := V1.get rfl
    refine z_fadr ?_; refine z_of A4 ?_; refine z_fadr ?_
    obtain ⟨h3, w1, W, w3, o3, w5⟩ := V1.wr o2 (off := 4) (v := .nilSlc) (show 4 < 5 by decide) rfl
    skip
    refine z_u w1 ?_
    have W : Var h3 hs.sz [.int .i64 kd, .bool b, .int .i64 nn, .str t, .nilSlc] := W
    have e03 : Ext hs h3 := w3.ext (ext_two e1 e2) ho (Nat.le_refl _)
    have V2 : Var h3 h1.sz [AV.int .i64 0, .bool false, .int .i64 0, .str [], .nilSlc] := w3.var V2 (by omega)
    have s3 : h3.sz = hs.sz + 2 := by omega
    refine z_of (VL.ext e03).len ?_
    suffices H : ∀ m i g out es, ll.length - i < m → i ≤ ll.length → Ext hs g → g.Ok → h3.sz ≤ g.sz → Var g hs.sz [.int .i64 kd, .bool b, .int .i64 nn, .str t, out] → Var g h1.sz [AV.int .i64 0, .bool false, .int .i64 0, .str [], .nilSlc] → Cps h3.sz g out es (ll.take i) → l57_10 (callN E n) n m (.ptr hs.sz 0 0 0) (.ptr h1.sz 0 0 0) lv (.int .i64 (ll.length : Int)) (.int .i64 (i : Int)) g K = true from
      H n 0 h3 .nilSlc [] (by omega) (Nat.zero_le _) e03 o3 (Nat.le_refl _) W V2 (Cps.nil _ _)
    intro m
    induction m with
    | zero => intro i g out es hm; omega
    | succ m ihm =>
      intro i g out es hm hi e o hg W V2 C
      unfold l57_10 b57_10
      refine z_lss ?_
      have hb3 : ∀ j, inRow out j → h3.sz ≤ j := fun j hj => own_row C.own hj
      have so : AV.same out out = true := C.own.view.same
      by_cases hlt : i < ll.length
      · refine z_ct (decide_eq_true (by omega)) ?_
        obtain ⟨id, gg, j, ee, p1, p2, R'⟩ := (VL.ext e).at (List.getElem?_eq_getElem hlt)
        obtain ⟨g1', g2', g3', g4'⟩ := R'.agg
        have hel : ee.length = 5 := by rw [← g4']; exact g2'
        have A : loadA g true 5 (.ptr id gg j 0) = some (.agg ee) := by rw [p2]; exact g1'
        have hm2 := szVs_mem (List.getElem_mem hlt)
        refine z_of (p1 .i64) ?_; refine z_of A ?_
        obtain ⟨g2, q2', V3, e2', o2', z2'⟩ := alloc_v (z := [AV.int .i64 0, .bool false, .int .i64 0, .str [], .nilSlc]) o (by decide) rfl
        refine z_p q2' ?_
        obtain ⟨g3, u1, U, u3, o3', u5⟩ := V3.wrs o2' (n := 5) (v := .agg ee) g2' rfl g3'
        refine z_u u1 ?_
        rw [g4'] at U
        have A2 : loadA g3 true 5 (.ptr g.sz 0 0 0) = some (.agg ee) := U.all hel
        have e3' : Ext g g3 := u3.ext e2' o (Nat.le_refl _)
        have B4 : ∀ {g'}, Ext g3 g' → loadA g' false 1 (.ptr hs.sz 0 0 4) = some out := fun e' => (W.ext (ext_two e3' e')).get rfl
        refine z_fadr ?_; refine z_of (B4 (Ext.refl _)) ?_; refine z_of A2 ?_
        obtain ⟨n, rfl⟩ : ∃ j, n = j + 1 := ⟨n - 1, by omega⟩
        refine ih n (RV.ext e3' R') o3' (by omega) (by omega) (by omega) (by omega) fun g4 a' e4 o4 G => ?_
        have htl : (ll.take i).length = i := by rw [List.length_take]; omega
        obtain ⟨w, g5, x1, e5, o5, out', g6, x2, o6, e6, f6, C6⟩ := C.push o ho e (by omega) hg e3' e4 o4 G (by omega)
        refine z_same (B4 e4) so ?_
        refine z_p x1 ?_
        refine z_same (B4 (ext_two e4 e5)) so ?_
        refine z_p x2 ?_
        have W6 := f6.var (W.ext (ext_two e3' (ext_two e4 e5))) fun q => by have := hb3 _ q; omega
        have V6 := f6.var (V2.ext (ext_two e3' (ext_two e4 e5))) fun q => by have := hb3 _ q; omega
        obtain ⟨g7, y1, Y, y3, o7, y5⟩ := W6.wr o6 (off := 4) (v := out') (show 4 < 5 by decide) C6.own.view.leaf
        refine z_fadr ?_
        refine z_u y1 ?_
        have Y : Var g7 hs.sz [.int .i64 kd, .bool b, .int .i64 nn, .str t, out'] := Y
        refine z_of (inc64 (i := i) (by omega)) ?_
        have t1 : ll.take (i + 1) = ll.take i ++ [ll[i]] := by rw [List.take_succ_eq_append_getElem hlt]
        have s1 := e3'.1; have s2 := e4.1; have s5 := e5.1; have s6 := f6.sz
        refine ihm (i + 1) g7 out' (es ++ [a']) (by omega) (by omega) (y3.ext e6 ho (Nat.le_refl _)) o7 (by omega) Y (y3.var V6 (by omega)) ?_
        rw [t1]
        exact C6.fr (Fr.of_but (X := fun j => j = hs.sz) rfl y3) fun j hj => by omega
      · refine z_cf (decide_eq_false (by omega)) ?_
        rw [List.take_of_length_le (by omega)] at C
        unfold p57_23
        have G := C.gv o hg
        have lf := C.own.view.leaf
        have A : loadA g true 5 (.ptr hs.sz 0 0 0) = some (.agg [.int .i64 kd, .bool b, .int .i64 nn, .str t, out]) := W.all rfl
        refine z_of A ?_
        obtain ⟨g5, x1, X, x3, o5, x5⟩ := V2.wrs o (n := 5) (v := .agg [.int .i64 kd, .bool b, .int .i64 nn, .str t, out]) rfl rfl (by simp only [AV.cells, allLeaf, lf]; rfl)
        refine z_u x1 ?_
        have X : Var g5 h1.sz [.int .i64 kd, .bool b, .int .i64 nn, .str t, out] := X
        refine res1 (X.all rfl) ?_
        have kq : Kp h3.sz g.sz g g5 := Kp.of_but x3 (by omega)
        obtain ⟨q, OW⟩ := G.ow
        refine kk g5 _ (x3.ext e ho (by omega)) o5 ⟨fun h' kp => RV.of (G.rd h' (kq.trans (kp.sub (by omega) (by omega)))) rr, q, out, rfl, lf, (OW.kp kq).wide (by omega) (by omega)⟩
theorem c62 {n : Nat} {hs : AHeap} {v : AV} {l : List Val} {K : Kont} (V : VV hs v l) (ho : hs.Ok) (hn : szVs l + 4 ≤ n) (hB : szVs l < 1000000000) (hL : n < lim)
    (kk : ∀ h2 v', Ext hs h2 → h2.Ok → v'.leaf = true → AV.same v' v' = true → Gv l h2 hs.sz h2.sz v' → K v' h2 = true) : callN E (n + 1) (.func 62) [v] hs K = true := by
  have hlm : lim = 4611686018427387904 := rfl
  have hlen := szVs_len l
  apply d62
  unfold s62
  refine z_of V.len ?_
  suffices H : ∀ m i h out es, l.length - i < m → i ≤ l.length → Ext hs h → h.Ok → Cps hs.sz h out es (l.take i) → l62_8 (callN E n) n m out v (.int .i64 (l.length : Int)) (.int .i64 (i : Int)) h K = true from
    H n 0 hs .nilSlc [] (by omega) (Nat.zero_le _) (Ext.refl _) ho (Cps.nil _ _)
  intro m
  induction m with
  | zero => intro i h out es hm; omega
  | succ m ihm =>
    intro i h out es hm hi e o C
    unfold l62_8 b62_8
    refine z_lss ?_
    by_cases hlt : i < l.length
    · refine z_ct (decide_eq_true (by omega)) ?_
      obtain ⟨id, g, j, ee, p1, p2, R⟩ := (V.ext e).at (List.getElem?_eq_getElem hlt)
      obtain ⟨g1, g2, g3, g4⟩ := R.agg
      have hel : ee.length = 5 := by rw [← g4]; exact g2
      have A : loadA h true 5 (.ptr id g j 0) = some (.agg ee) := by rw [p2]; exact g1
      have hm2 := szVs_mem (List.getElem_mem hlt)
      refine z_of (p1 .i64) ?_; refine z_of A ?_
      obtain ⟨h2, q2, V2, e2, o2, z2⟩ := alloc_v (z := [AV.int .i64 0, .bool false, .int .i64 0, .str [], .nilSlc]) o (by decide) rfl
      refine z_p q2 ?_
      obtain ⟨h3, w1, W, w3, o3, w5⟩ := V2.wrs o2 (n := 5) (v := .agg ee) g2 rfl g3
      refine z_u w1 ?_
      rw [g4] at W
      have A2 : loadA h3 true 5 (.ptr h.sz 0 0 0) = some (.agg ee) := W.all hel
      have e3 : Ext h h3 := w3.ext e2 o (Nat.le_refl _)
      refine z_of A2 ?_
      obtain ⟨n, rfl⟩ : ∃ j, n = j + 1 := ⟨n - 1, by omega⟩
      refine c57 (szVs l) n (R.ext e3) o3 (by omega) (by omega) (by omega) (by omega) fun h4 a' e4 o4 G => ?_
      have htl : (l.take i).length = i := by rw [List.length_take]; omega
      obtain ⟨w, g5, x1, e5, o5, out', g6, x2, o6, e6, f6, C6⟩ := C.push o ho e (Nat.le_refl _) e.1 e3 e4 o4 G (by omega)
      refine z_p x1 ?_
      refine z_p x2 ?_
      refine z_of (inc64 (i := i) (by omega)) ?_
      have t1 : l.take (i + 1) = l.take i ++ [l[i]] := by rw [List.take_succ_eq_append_getElem hlt]
      refine ihm (i + 1) g6 out' (es ++ [a']) (by omega) (by omega) e6 o6 ?_
      rw [t1]; exact C6
    · refine z_cf (decide_eq_false (by omega)) ?_
      rw [List.take_of_length_le (by omega)] at C
      have V' := (C.own.view)
      exact kk h out e o V'.leaf V'.same (C.gv o e.1)
theorem _root_.Go.Ab.RV.len5 {h : AHeap} {a : List AV} {x : Val} (R : RV h a x) : a.length = 5 := by
  obtain ⟨g1, g2, g3, g4⟩ := R.agg; rw [← g4]; exact g2
theorem build2 {z1 z2 a b : AV} (h1 : a.leaf = true) (h2 : b.leaf = true) : buildV [z1, z2] [(0, 1, a), (1, 1, b)] = some (.agg [a, b]) := by
  have c1 := cells_leaf h1
  have c2 := cells_leaf h2
  simp only [buildV, fillV, c1, c2, List.length_cons, List.length_nil, allLeaf, h1, h2, lay]
  rfl
end Go.Proofs.Ythifmankpcadjaa
namespace Go.Proofs.Ythifmankpcadjaa
open Go.Ab
set_option linter.unusedSimpArgs false
set_option linter.unusedVariables false
def byA (x : Int) (i : Nat) : Nat := (x.fdiv (2 ^ (8 * i)) % 256).toNat
def bigB (x : Int) : Nat → List Nat
  | 0 => []
  | w + 1 => byA x w :: bigB x w
theorem byA_lt (x : Int) (i : Nat) : byA x i < 256 := by unfold byA; omega
theorem bigB_len (x : Int) : ∀ w, (bigB x w).length = w
  | 0 => rfl
  | w + 1 => by simp [bigB, bigB_len x w]
theorem bigB_lt (x : Int) : ∀ w, ∀ b ∈ bigB x w, b < 256
  | 0, b, h => by cases h
  | w + 1, b, h => by
    rcases List.mem_cons.1 h with h | h
    · rw [h]; exact byA_lt x w
    · exact bigB_lt x w b h
theorem wrap8 (y : Int) : wrapA .u8 y = y % 256 := by
  rw [wrapA_eq]; simp [IntKind.wrap, IntKind.bits, IntKind.signed]
theorem conv8 (k : IntKind) (y : Int) : convA .u8 (.int k y) = some (.int .u8 ((y % 256).toNat : Int)) := by
  show some (AV.int .u8 (wrapA .u8 y)) = _
  rw [wrap8]; congr 2; omega
theorem mul8 (i : Nat) (h : i < 100) : binA .mul (.int .i64 8) (.int .i64 (i : Int)) = some (.int .i64 ((8 * i : Nat) : Int)) := by
  rw [binA_mul, wrap64 (by omega) (by omega)]; congr 2
theorem shr8 {k : IntKind} (hk : k.bits = 64) (x : Int) (i : Nat) (h : i < 8) : binA .shr (.int k x) (.int .i64 ((8 * i : Nat) : Int)) = some (.int k (x.fdiv (2 ^ (8 * i)))) := by
  simp only [binA, isShift, cond_true, shiftA]
  have : iltb ((8 * i : Nat) : Int) 0 = false := rfl
  rw [this, cond_false]
  simp only [hk]
  have : min (((8 * i : Nat) : Int).toNat) 64 = 8 * i := by omega
  rw [this]
structure App (b : Nat) (h0 h h' : AHeap) (v v' : AV) (acc new : List Nat) : Prop where
  own : Own b h' 1 v' (encB (acc ++ new))
  ok : h'.Ok
  ext : Ext h0 h'
  fr : Fr (inRow v) h h'
  rows : ∀ j, inRow v' j → inRow v j ∨ h.sz ≤ j
section
variable {b : Nat} {h0 h h1 h2 h3 : AHeap} {v v' v'' : AV} {acc new new' : List Nat}
theorem App.refl (O : Own b h 1 v (encB acc)) (o : h.Ok) (e : Ext h0 h) : App b h0 h h v v acc [] := ⟨by rw [List.append_nil]; exact O, o, e, Fr.refl _ _, fun j i => .inl i⟩
theorem App.trans (o : h.Ok) (p : App b h0 h h1 v v' acc new) (q : App b h0 h1 h2 v' v'' (acc ++ new) new') : App b h0 h h2 v v'' acc (new ++ new') :=
  ⟨by rw [← List.append_assoc]; exact q.own, q.ok, q.ext, fr_acc o p.fr q.fr fun j i => p.rows j i, fun j i => by
    have := p.fr.sz
    rcases q.rows j i with i | i
    · exact p.rows j i
    · exact .inr (by omega)⟩
theorem App.ahead (e : Ext h h1) (p : App b h0 h1 h2 v v' acc new) : App b h0 h h2 v v' acc new :=
  ⟨p.own, p.ok, p.ext, (Fr.of_ext e).trans p.fr, fun j i => by have := e.1; rcases p.rows j i with i | i; exact .inl i; exact .inr (by omega)⟩
theorem app_t (O : Own b h 1 v (encB acc)) (hb : b ≤ h.sz) (o : h.Ok) (k0 : h0.Ok) (e0 : Ext h0 h) (hb0 : h0.sz ≤ b) {x : AV} (hs : source h 1 x = some (encB new)) (h2 : acc.length + new.length ≤ most) :
    ∃ v' h', appendA h 1 1 v x = some (v', h') ∧ App b h0 h h' v v' acc new := by
  have e1 : (encB acc).length = acc.length := by simp [encB]
  have e2 : (encB new).length = new.length := by simp [encB]
  obtain ⟨v', h', a1, a2, a3, a4, a5, a6, a7⟩ := O.app (bytes := 1) (by decide) hb o k0 e0 hb0 hs (by omega) (by omega)
  refine ⟨v', h', a1, ⟨?_, a3, a4, ⟨a5, fun j o' nj g => a6 j o' g fun id g' s l c ex e q => nj ⟨g', s, l, c, ex, by rw [e, q]⟩⟩, fun j i => ?_⟩⟩
  · have : encB (acc ++ new) = encB acc ++ encB new := by simp [encB]
    rw [this]; exact a2
  · rcases app_row a1 i with q | q
    · exact .inl q
    · exact .inr (by omega)
theorem appb_t {e : Nat} (O : Own b h 1 v (encB acc)) (hb : b ≤ h.sz) (o : h.Ok) (k0 : h0.Ok) (e0 : Ext h0 h) (hb0 : h0.sz ≤ b) {x : AV} (hs : source h 1 x = some (encB new)) (h2 : acc.length + new.length ≤ most) :
    ∃ v' h', appbA h e v x = some (v', h') ∧ App b h0 h h' v v' acc new := by
  have e1 : (encB acc).length = acc.length := by simp [encB]
  have e2 : (encB new).length = new.length := by simp [encB]
  obtain ⟨v', h', a1, a2, a3, a4, a5, a6, a7, _⟩ := O.appb (e := e) hb o k0 e0 hb0 hs (by omega)
  refine ⟨v', h', a1, ⟨?_, a3, a4, ⟨a5, fun j o' nj g => a6 j o' g fun id g' s l c ex e q => nj ⟨g', s, l, c, ex, by rw [e, q]⟩⟩, fun j i => ?_⟩⟩
  · have : encB (acc ++ new) = encB acc ++ encB new := by simp [encB]
    rw [this]; exact a2
  · rcases app_row a1 i with q | q
    · exact .inl q
    · exact .inr (by omega)
theorem byte_t {e : Nat} {K : Kont} {c : Nat} (O : Own b h 1 v (encB acc)) (hb : b ≤ h.sz) (o : h.Ok) (k0 : h0.Ok) (e0 : Ext h0 h) (hb0 : h0.sz ≤ b) (hl : acc.length < 1000000000000)
    (kk : ∀ h' v', App b h0 h h' v v' acc [c] → K v' h' = true) :
    (optP (bsliceV h 1 1 [.int .u8 0] [(0, .int .u8 (c : Int))]) fun v5 h => optP (appbA h e v v5) fun v6 h => K v6 h) = true := by
  have hmo : most = 1099511627776 := rfl
  obtain ⟨w, h1, q1, V, e1, o1, z1, _⟩ := bslice1_v (sz := 1) (z := [AV.int .u8 0]) (v := .int .u8 (c : Int)) o rfl (by decide) (by decide) rfl rfl rfl
  refine z_p q1 ?_
  obtain ⟨v', h', a1, A⟩ := appb_t (e := e) (new := [c]) (O.ext e1) (by have := e1.1; omega) o1 k0 (ext_two e0 e1) hb0 V.src (by simp; omega)
  refine z_p a1 ?_
  exact kk h' v' (A.ahead e1)
end
section
variable {b : Nat} {h0 h : AHeap} {v : AV} {acc : List Nat} {K : Kont} {n : Nat} {k : IntKind}
theorem v89 {x : Int} {w : Nat} (hk : k.bits = 64) (hw : w ≤ 8) (O : Own b h 1 v (encB acc)) (hb : b ≤ h.sz) (o : h.Ok) (k0 : h0.Ok) (e0 : Ext h0 h) (hb0 : h0.sz ≤ b) (hl : acc.length < 900000000000) (hn : 9 ≤ n)
    (kk : ∀ h' v', App b h0 h h' v v' acc (bigB x w) → K v' h' = true) : callN E (n + 1) (.func 88) [v, .int k x, .int .i64 (w : Int)] h K = true := by
  apply d88
  unfold s88
  refine z_of (sub64 (a := (w : Int)) (b := 1) (by omega) (by omega)) ?_
  suffices H : ∀ w' m h1 v1 done, w' < m → w' ≤ 8 → App b h0 h h1 v v1 acc done → done.length ≤ 8 → done ++ bigB x w' = bigB x w → l88_6 (callN E n) n m v1 (.int k x) (.int .i64 ((w' : Int) - 1)) h1 K = true from
    H w n h v [] (by omega) hw (App.refl O o e0) (by simp) rfl
  intro w'
  induction w' with
  | zero =>
    intro m h1 v1 done hm _ A hd he
    obtain ⟨m, rfl⟩ : ∃ j, m = j + 1 := ⟨m - 1, by omega⟩
    unfold l88_6 b88_6
    refine z_geq ?_
    refine z_cf (by decide) ?_
    rw [show bigB x 0 = [] from rfl, List.append_nil] at he
    exact kk h1 v1 (he ▸ A)
  | succ w' ih =>
    intro m h1 v1 done hm hw8 A hd he
    obtain ⟨m, rfl⟩ : ∃ j, m = j + 1 := ⟨m - 1, by omega⟩
    unfold l88_6 b88_6
    have e1 : (((w' + 1 : Nat) : Int) - 1) = (w' : Int) := by omega
    rw [e1]
    refine z_geq ?_
    refine z_ct (decide_eq_true (by omega)) ?_
    refine z_of (mul8 w' (by omega)) ?_; refine z_of (shr8 hk x w' (by omega)) ?_; refine z_of (conv8 k (x.fdiv (2 ^ (8 * w')))) ?_
    have hb1 : b ≤ h1.sz := by have := A.fr.sz; omega
    refine byte_t (c := byA x w') A.own hb1 A.ok k0 A.ext hb0 (by simp; omega) fun h2 v2 A2 => ?_
    refine z_of (sub64 (a := (w' : Int)) (b := 1) (by omega) (by omega)) ?_
    have hle := congrArg List.length he
    rw [List.length_append, bigB_len, bigB_len] at hle
    refine ih m h2 v2 (done ++ [byA x w']) (by omega) (by omega) (A.trans o A2) (by simp; omega) ?_
    rw [List.append_assoc]; exact he
end
end Go.Proofs.Ythifmankpcadjaa
namespace Go.Proofs.Ythifmankpcadjaa
open Go.Ab
set_option linter.unusedSimpArgs false
set_option linter.unusedVariables false
mutual
def encV : Val → List Nat
  | .mk k b n t l => (k % 256).toNat :: (if k = 1 then [if b then 1 else 0] else if k = 2 ∨ k = 5 then bigB (wrapA .u64 n) 8 else if k = 3 then bigB (wrapA .u64 (t.length : Int)) 4 ++ t else if k = 4 then bigB (wrapA .u64 (l.length : Int)) 4 ++ encVs l else [])
def encVs : List Val → List Nat
  | [] => []
  | v :: l => encV v ++ encVs l
end
theorem encVs_app (l m : List Val) : encVs (l ++ m) = encVs l ++ encVs m := by
  induction l with
  | nil => rfl
  | cons x t ih => simp only [List.cons_append, encVs, ih, List.append_assoc]
theorem encVs_one (x : Val) : encVs [x] = encV x := by simp [encVs]
mutual
theorem encV_len : ∀ (x : Val), (encV x).length ≤ 13 * szV x
  | .mk k b n t l => by
    have h1 := bigB_len (wrapA .u64 n) 8
    have h2 := bigB_len (wrapA .u64 (t.length : Int)) 4
    have h3 := bigB_len (wrapA .u64 (l.length : Int)) 4
    have h4 := encVs_len l
    simp only [encV, szV, List.length_cons]
    split
    · simp; omega
    · split
      · omega
      · split
        · rw [List.length_append]; omega
        · split
          · rw [List.length_append]; omega
          · simp; omega
theorem encVs_len : ∀ (l : List Val), (encVs l).length ≤ 13 * szVs l
  | [] => by simp [encVs]
  | x :: l => by
    have h1 := encV_len x
    have h2 := encVs_len l
    simp only [encVs, szVs, List.length_append]; omega
end
theorem conv64 (n : Int) : convA .u64 (.int .i64 n) = some (.int .u64 (wrapA .u64 n)) := rfl
theorem src_str {h : AHeap} (s : Str) : source h 1 (.str s) = some (encB s) := rfl
theorem v88 {h : AHeap} {K : Kont} {n : Nat} {b : Bool} (k : K (.int .i64 (if b then 1 else 0)) h = true) : callN E (n + 1) (.func 87) [.bool b] h K = true := by
  apply d87
  unfold s87
  cases b
  · exact z_cF k
  · exact z_cT k
section
variable {b : Nat} {h0 h : AHeap} {v : AV} {acc : List Nat} {K : Kont}
theorem App.box {h1 : AHeap} {c : List AV} {id : Nat} {v' : AV} {new : List Nat} (A : App b h0 h h1 v v' acc new) (V : Var h id c) (hv : ∀ j, inRow v j → j ≠ id) : Var h1 id c := A.fr.var V fun q => hv _ q rfl
theorem v68 : ∀ (k n : Nat) {b : Nat} {h0 h : AHeap} {v : AV} {acc : List Nat} {a : List AV} {x : Val} {K : Kont}, RV h0 a x → Own b h 1 v (encB acc) → b ≤ h.sz → h.Ok → h0.Ok → Ext h0 h → h0.sz ≤ b → szV x ≤ k → acc.length + 13 * szV x < 800000000000 → k + 12 ≤ n → n < lim - 5 →
    (∀ h' v', App b h0 h h' v v' acc (encV x) → K v' h' = true) → callN E (n + 1) (.func 74) [v, .agg a] h K = true := by
  intro k
  induction k with
  | zero =>
    intro n b h0 h v acc a x K R O hb o k0 e0 hb0 hk
    cases x; simp only [szV] at hk; omega
  | succ k ih =>
    intro n b h0 h v acc a x K R O hb o k0 e0 hb0 hk hl hn hL kk
    have hlm : lim = 4611686018427387904 := rfl
    have hmo : most = 1099511627776 := rfl
    obtain ⟨g1, g2, g3, g4⟩ := R.agg
    obtain ⟨kd, bb, nn, t, l⟩ := x
    obtain ⟨lv, rfl, VL, rr⟩ := R.cells
    have hlen := szVs_len l
    have hel := encV_len (.mk kd bb nn t l)
    simp only [szV] at hk hel hl
    apply d74
    unfold s74
    obtain ⟨h1, q1, V1, e1, o1, z1⟩ := box_v (n := 5) o g2 (by decide) g3
    rw [g4] at V1
    refine z_p q1 ?_
    have A0 : loadA h1 false 1 (.ptr h.sz 0 0 0) = some (.int .i64 kd) := V1.get rfl
    refine z_fadr ?_; refine z_of A0 ?_; refine z_of (conv8 .i64 kd) ?_
    have hv1 : ∀ j, inRow v j → j ≠ h.sz := fun j hj => by have := own_lt (own_low O) o hj; omega
    refine byte_t (e := 5) (O.ext e1) (by omega) o1 k0 (ext_two e0 e1) hb0 (by omega) fun h2 v2 A2 => ?_
    have V2 := A2.box V1 hv1
    have A2h := A2.ahead e1
    have hb2 : b ≤ h2.sz := by have := A2.fr.sz; omega
    have hv2 : ∀ j, inRow v2 j → j ≠ h.sz := fun j hj => by
      rcases A2.rows j hj with q | q
      · exact hv1 j q
      · omega
    have al : (acc ++ [(kd % 256).toNat]).length = acc.length + 1 := by simp
    have B0 : loadA h2 false 1 (.ptr h.sz 0 0 0) = some (.int .i64 kd) := V2.get rfl
    refine z_fadr ?_; refine z_of B0 ?_; refine z_eql ?_
    have fin : ∀ new, encV (.mk kd bb nn t l) = (kd % 256).toNat :: new → ∀ h' v', App b h0 h2 h' v2 v' (acc ++ [(kd % 256).toNat]) new → K v' h' = true := fun new he h' v' A' => by
      refine kk h' v' ?_
      rw [he]
      exact A2h.trans o A'
    by_cases k1 : kd = 1
    · refine z_ct (decide_eq_true k1) ?_
      have B1 : loadA h2 false 1 (.ptr h.sz 0 0 1) = some (.bool bb) := V2.get rfl
      refine z_fadr ?_; refine z_of B1 ?_
      obtain ⟨n, rfl⟩ : ∃ j, n = j + 1 := ⟨n - 1, by omega⟩
      refine v88 ?_
      have hc : convA .u8 (.int .i64 (if bb then 1 else 0)) = some (.int .u8 ((if bb then 1 else 0 : Nat) : Int)) := by cases bb <;> rfl
      refine z_of hc ?_
      refine byte_t (e := 5) A2.own hb2 A2.ok k0 A2.ext hb0 (by rw [al]; omega) fun h3 v3 A3 => ?_
      exact fin _ (by simp only [encV, if_pos k1]) h3 v3 A3
    · refine z_cf (decide_eq_false k1) ?_
      have p18 : ∀ c : Bool, c = decide (kd = 2 ∨ kd = 5) → p74_18 (callN E n) n v2 (.ptr h.sz 0 0 0) (.int .i64 kd) (.bool c) h2 K = true := by
        intro c hc
        unfold p74_18
        by_cases k25 : kd = 2 ∨ kd = 5
        · rw [hc, decide_eq_true k25]
          refine z_cT ?_
          have B2 : loadA h2 false 1 (.ptr h.sz 0 0 2) = some (.int .i64 nn) := V2.get rfl
          refine z_fadr ?_; refine z_of B2 ?_; refine z_of (conv64 nn) ?_
          obtain ⟨n, rfl⟩ : ∃ j, n = j + 1 := ⟨n - 1, by omega⟩
          refine v89 (k := .u64) (w := 8) rfl (by omega) A2.own hb2 A2.ok k0 A2.ext hb0 (by rw [al]; omega) (by omega) fun h3 v3 A3 => ?_
          exact fin _ (by simp only [encV, if_neg k1, if_pos k25]) h3 v3 A3
        · rw [hc, decide_eq_false k25]
          refine z_cF ?_
          refine z_eql ?_
          by_cases k3 : kd = 3
          · refine z_ct (decide_eq_true k3) ?_
            have B3 : ∀ {g}, Var g h.sz [.int .i64 kd, .bool bb, .int .i64 nn, .str t, lv] → loadA g false 1 (.ptr h.sz 0 0 3) = some (.str t) := fun V => V.get rfl
            refine z_fadr ?_; refine z_of (B3 V2) ?_; refine z_slen ?_; refine z_of (conv64 (t.length : Int)) ?_; refine z_fadr ?_; refine z_of (B3 V2) ?_
            obtain ⟨n, rfl⟩ : ∃ j, n = j + 1 := ⟨n - 1, by omega⟩
            refine v89 (k := .u64) (w := 4) rfl (by omega) A2.own hb2 A2.ok k0 A2.ext hb0 (by rw [al]; omega) (by omega) fun h3 v3 A3 => ?_
            have V3 := A3.box V2 hv2
            refine z_same (B3 V3) (same_str _) ?_
            have b4 := bigB_len (wrapA .u64 (t.length : Int)) 4
            obtain ⟨v4, h4, a1, A4⟩ := app_t (new := t) A3.own (by have := A3.fr.sz; omega) A3.ok k0 A3.ext hb0 (src_str t) (by rw [List.length_append, al, b4]; omega)
            refine z_p a1 ?_
            exact fin _ (by simp only [encV, if_neg k1, if_neg k25, if_pos k3]) h4 v4 (A3.trans A2.ok A4)
          · refine z_cf (decide_eq_false k3) ?_
            refine z_eql ?_
            by_cases k4 : kd = 4
            · refine z_ct (decide_eq_true k4) ?_
              have B4 : ∀ {g}, Var g h.sz [.int .i64 kd, .bool bb, .int .i64 nn, .str t, lv] → loadA g false 1 (.ptr h.sz 0 0 4) = some lv := fun V => V.get rfl
              refine z_fadr ?_; refine z_of (B4 V2) ?_; refine z_of (VL.ext A2.ext).len ?_; refine z_of (conv64 (l.length : Int)) ?_
              obtain ⟨n, rfl⟩ : ∃ j, n = j + 1 := ⟨n - 1, by omega⟩
              refine v89 (k := .u64) (w := 4) rfl (by omega) A2.own hb2 A2.ok k0 A2.ext hb0 (by rw [al]; omega) (by omega) fun h3 v3 A3 => ?_
              have V3 := A3.box V2 hv2
              refine z_fadr ?_; refine z_of (B4 V3) ?_; refine z_of (VL.ext A3.ext).len ?_
              have b4 := bigB_len (wrapA .u64 (l.length : Int)) 4
              suffices H : ∀ m i g w done, l.length - i < m → i ≤ l.length → App b h0 h3 g v3 w (acc ++ [(kd % 256).toNat] ++ bigB (wrapA .u64 (l.length : Int)) 4) done → done = encVs (l.take i) → l74_32 (callN E (n + 1)) (n + 1) m w lv (.int .i64 (l.length : Int)) (.int .i64 (i : Int)) g K = true from
                H (n + 1) 0 h3 v3 [] (by omega) (Nat.zero_le _) (App.refl A3.own A3.ok A3.ext) rfl
              intro m
              induction m with
              | zero => intro i g w done hm; omega
              | succ m ihm =>
                intro i g w done hm hi A hd
                unfold l74_32 b74_32
                refine z_lss ?_
                by_cases hlt : i < l.length
                · refine z_ct (decide_eq_true (by omega)) ?_
                  obtain ⟨id, gg, j, ee, p1, p2, R2⟩ := VL.at (List.getElem?_eq_getElem hlt)
                  obtain ⟨id, gg, j, ee', p1, p2, R2'⟩ := (VL.ext A.ext).at (List.getElem?_eq_getElem hlt)
                  obtain ⟨f1, f2, f3, f4⟩ := R2'.agg
                  have B5 : loadA g true 5 (.ptr id gg j 0) = some (.agg ee') := by rw [p2]; exact f1
                  refine z_of (p1 .i64) ?_; refine z_of B5 ?_
                  obtain ⟨g2, x2, W2, y2, oo2, zz2⟩ := alloc_v (z := [AV.int .i64 0, .bool false, .int .i64 0, .str [], .nilSlc]) A.ok (by decide) rfl
                  refine z_p x2 ?_
                  obtain ⟨g3', w1, W, w3, o3, w5⟩ := W2.wrs oo2 (n := 5) (v := .agg ee') f2 rfl f3
                  refine z_u w1 ?_
                  rw [f4] at W
                  have ye : Ext g g3' := w3.ext y2 A.ok (Nat.le_refl _)
                  have B6 : loadA g3' true 5 (.ptr g.sz 0 0 0) = some (.agg ee') := W.all (RV.len5 R2')
                  refine z_of B6 ?_
                  have hm2 := szVs_mem (List.getElem_mem hlt)
                  have R0 : RV h0 ee' l[i] := by
                    obtain ⟨es, v1, v2⟩ := VL
                    obtain ⟨e0', he0, hr0⟩ := v2.get (List.getElem?_eq_getElem hlt)
                    obtain ⟨id', g', j', u⟩ := v1.atE he0
                    have u1 := (u g A.ext).1 .i64
                    have u2 := (u g A.ext).2 true 0 5
                    rw [p1 .i64] at u1
                    injection u1 with u1
                    rw [← u1] at u2
                    rw [B5] at u2
                    have : partA true 0 5 e0' = some (.agg e0') := (hr0.agg).1
                    rw [this] at u2
                    injection u2 with u2
                    injection u2 with u2
                    rw [u2]; exact hr0
                  have hdl : done.length ≤ 13 * szVs l := by
                    rw [hd]
                    refine Nat.le_trans (encVs_len _) (Nat.mul_le_mul_left 13 ?_)
                    rw [szVs_eq, szVs_eq]; exact szL_take l i
                  have hdl2 : done.length + 13 * szV l[i] ≤ 13 * szVs l := by
                    have h5 : encVs (l.take (i + 1)) = encVs (l.take i) ++ encV l[i] := by rw [List.take_succ_eq_append_getElem hlt, encVs_app, encVs_one]
                    have : szVs (l.take i) + szV l[i] ≤ szVs l := by
                      have h6 : szVs (l.take (i + 1)) ≤ szVs l := by rw [szVs_eq, szVs_eq]; exact szL_take l (i + 1)
                      have h7 : szVs (l.take (i + 1)) = szVs (l.take i) + szV l[i] := by
                        rw [List.take_succ_eq_append_getElem hlt]
                        have : ∀ (p q : List Val), szVs (p ++ q) = szVs p + szVs q := by
                          intro p q
                          induction p with
                          | nil => simp [szVs]
                          | cons y t ih => simp only [List.cons_append, szVs, ih]; omega
                        rw [this]; simp [szVs]
                      omega
                    have h8 := encVs_len (l.take i)
                    rw [hd]; omega
                  refine ih n R0 (A.own.ext ye) (by have := A.fr.sz; have := A3.fr.sz; have := ye.1; omega) o3 k0 (ext_two A.ext ye) hb0 (by omega) (by rw [List.length_append, List.length_append, al, b4]; omega) (by omega) (by omega) fun g4 w4 A4 => ?_
                  refine z_of (inc64 (i := i) (by omega)) ?_
                  refine ihm (i + 1) g4 w4 (done ++ encV l[i]) (by omega) (by omega) (A.trans A3.ok (A4.ahead ye)) ?_
                  rw [hd, List.take_succ_eq_append_getElem hlt, encVs_app, encVs_one]
                · refine z_cf (decide_eq_false (by omega)) ?_
                  rw [List.take_of_length_le (by omega)] at hd
                  refine fin (bigB (wrapA .u64 (l.length : Int)) 4 ++ encVs l) (by simp only [encV, if_neg k1, if_neg k25, if_neg k3, if_pos k4]) g w ?_
                  rw [← hd]
                  exact A3.trans A2.ok A
            · refine z_cf (decide_eq_false k4) ?_
              exact fin [] (by simp only [encV, if_neg k1, if_neg k25, if_neg k3, if_neg k4]) h2 v2 (App.refl A2.own A2.ok A2.ext)
      refine z_eql ?_
      by_cases k2 : kd = 2
      · rw [decide_eq_true k2]
        refine z_cT (p18 true ?_)
        rw [decide_eq_true (.inl k2)]
      · rw [decide_eq_false k2]
        refine z_cF ?_
        refine z_eql ?_
        refine p18 _ ?_
        congr 1; apply propext
        exact ⟨.inr, fun q => q.elim (fun q => absurd q k2) id⟩
end
end Go.Proofs.Ythifmankpcadjaa
namespace Go.Proofs.Ythifmankpcadjaa
open Go.Ab
set_option linter.unusedSimpArgs false
set_option linter.unusedVariables false
mutual
theorem encV_lt {h : AHeap} : ∀ {x : Val} {a : List AV}, RV h a x → ∀ c ∈ encV x, c < 256
  | .mk k b n t l, a, R, c, hc => by
    simp only [RV] at R
    obtain ⟨lv, es, rfl, _, hr, _, _, ht⟩ := R
    simp only [encV] at hc
    rcases List.mem_cons.1 hc with hc | hc
    · omega
    · split at hc
      · simp only [List.mem_singleton] at hc; cases b <;> simp at hc <;> omega
      · split at hc
        · exact bigB_lt _ _ c hc
        · split at hc
          · rcases List.mem_append.1 hc with hc | hc
            · exact bigB_lt _ _ c hc
            · exact ht c hc
          · split at hc
            · rcases List.mem_append.1 hc with hc | hc
              · exact bigB_lt _ _ c hc
              · exact encVs_lt hr c hc
            · cases hc
theorem encVs_lt {h : AHeap} : ∀ {l : List Val} {es : List (List AV)}, RVs h es l → ∀ c ∈ encVs l, c < 256
  | [], _, _, c, hc => by simp [encVs] at hc
  | x :: l, es, R, c, hc => by
    simp only [RVs] at R
    obtain ⟨e, r, rfl, h1, h2⟩ := R
    simp only [encVs] at hc
    rcases List.mem_append.1 hc with hc | hc
    · exact encV_lt h1 c hc
    · exact encVs_lt h2 c hc
end
def spX (x : Val) : List Nat := if ckV 30 x = true then encV x else []
def spV (l : List Val) : List Nat := (l.map spX).flatten
theorem spV_take {l : List Val} {i : Nat} (h : i < l.length) : spV (l.take (i + 1)) = spV (l.take i) ++ spX l[i] := by
  unfold spV
  rw [List.take_succ_eq_append_getElem h, List.map_append, List.flatten_append]; simp
theorem spX_len (x : Val) : (spX x).length ≤ 13 * szV x := by
  unfold spX
  split
  · exact encV_len x
  · simp
theorem spV_len : ∀ (l : List Val), (spV l).length ≤ 13 * szVs l
  | [] => by simp [spV]
  | x :: l => by
    have h1 := spX_len x
    have h2 := spV_len l
    have : spV (x :: l) = spX x ++ spV l := by simp [spV]
    rw [this, List.length_append]; simp only [szVs]; omega
theorem spV_take_len (l : List Val) (i : Nat) : (spV (l.take i)).length ≤ 13 * szVs l := Nat.le_trans (spV_len _) (Nat.mul_le_mul_left 13 (by rw [szVs_eq, szVs_eq]; exact szL_take l i))
theorem _root_.Go.Ab.VV.lt {h : AHeap} {v : AV} {l : List Val} (V : VV h v l) : ∀ x ∈ l, ∀ c ∈ spX x, c < 256 := by
  intro x hx c hc
  obtain ⟨i, hi, rfl⟩ := List.mem_iff_getElem.1 hx
  obtain ⟨id, g, j, e, _, _, R⟩ := V.at (List.getElem?_eq_getElem hi)
  unfold spX at hc
  split at hc
  · exact encV_lt R c hc
  · cases hc
theorem _root_.Go.Ab.VV.lts {h : AHeap} {v : AV} {l : List Val} (V : VV h v l) : ∀ c ∈ spV l, c < 256 := by
  intro c hc
  obtain ⟨s, hs, hc⟩ := List.mem_flatten.1 hc
  obtain ⟨x, hx, rfl⟩ := List.mem_map.1 hs
  exact V.lt x hx c hc
theorem b2s_own {b : Nat} {h : AHeap} {v : AV} {s : Str} (O : Own b h 1 v (encB s)) (hb : ∀ c ∈ s, c < 256) : b2sA h v = some (.str s) := by
  have hs := O.view.src
  rcases O with ⟨rfl, he⟩ | ⟨i, r, q1, rfl, _⟩
  · cases s with
    | nil => rfl
    | cons b s => simp [encB] at he
  · simp only [b2sA, hs, bytesOf_enc s hb]
section
variable {h : AHeap} {K : Kont} {n : Nat}
theorem v59 {a : List AV} {x : Val} (R : RV h a x) (ho : h.Ok) (hB : szV x < 10000000000) (hn : szV x + 42 ≤ n) (hL : n < lim - 9) (kk : ∀ h' e er, Ext h h' → h'.Ok → View h' 1 e (encB (spX x)) → K (.tup [e, er]) h' = true) : callN E (n + 3) (.func 65) [.agg a] h K = true := by
  obtain ⟨g1, g2, g3, g4⟩ := R.agg
  apply d65
  unfold s65
  obtain ⟨h1, q1, V1, e1, o1, z1⟩ := box_v (n := 5) ho g2 (by decide) g3
  rw [g4] at V1
  refine z_p q1 ?_
  have A : ∀ {g}, Ext h1 g → loadA g true 5 (.ptr h.sz 0 0 0) = some (.agg a) := fun e => (V1.ext e).all (RV.len5 R)
  refine z_of (A (Ext.refl _)) ?_
  refine u41 (n := n) (R.ext e1) o1 (by omega) (by omega) fun h2 e2 o2 => ?_
  unfold spX at kk
  cases hc : ckV 30 x with
  | false =>
    rw [hc] at kk
    refine z_notF ?_; refine z_cT ?_
    exact kk h2 .nilSlc _ (ext_two e1 e2) o2 (View.nil _ _)
  | true =>
    rw [hc] at kk
    refine z_notT ?_; refine z_cF ?_
    refine z_of (A e2) ?_
    refine v68 (szV x) (n + 1) (b := h2.sz) (h0 := h2) (acc := []) ((R.ext e1).ext e2) (Own.nil _ _ _) (Nat.le_refl _) o2 o2 (Ext.refl _) (Nat.le_refl _) (Nat.le_refl _) (by simp; omega) (by omega) (by omega) fun h3 v3 A3 => ?_
    exact kk h3 v3 _ (ext_two (ext_two e1 e2) A3.ext) A3.ok A3.own.view
theorem c40 {cls : Str} {v : AV} {l : List Val} (V : VV h v l) (ho : h.Ok) (hB : szVs l < 10000000000) (hn : szVs l + 42 ≤ n) (hL : n < lim - 9) (kk : ∀ h', Ext h h' → h'.Ok → K (.agg [.str cls, .str (spV l)]) h' = true) : callN E (n + 4) (.func 40) [.str cls, v] h K = true := by
  have hlm : lim = 4611686018427387904 := rfl
  have hmo : most = 1099511627776 := rfl
  have hlen := szVs_len l
  apply d40
  unfold s40
  obtain ⟨h2, q2, V2, e02, o2, z2⟩ := alloc_v (z := [AV.str [], AV.str []]) ho (by decide) rfl
  refine z_p q2 ?_
  refine z_of (V.ext e02).len ?_
  suffices H : ∀ m i g w, l.length - i < m → i ≤ l.length → App h2.sz h2 h2 g .nilSlc w [] (spV (l.take i)) → l40_8 (callN E (n + 3)) (n + 3) m (.str cls) (.ptr h.sz 0 0 0) w v (.int .i64 (l.length : Int)) (.int .i64 (i : Int)) g K = true from
    H (n + 3) 0 h2 .nilSlc (by omega) (Nat.zero_le _) (App.refl (Own.nil _ _ _) o2 (Ext.refl _))
  intro m
  induction m with
  | zero => intro i g w hm; omega
  | succ m ih =>
    intro i g w hm hi A
    unfold l40_8 b40_8
    refine z_lss ?_
    have e0g := ext_two e02 A.ext
    by_cases hlt : i < l.length
    · refine z_ct (decide_eq_true (by omega)) ?_
      obtain ⟨id, gg, j, ee, p1, p2, R⟩ := (V.ext e0g).at (List.getElem?_eq_getElem hlt)
      obtain ⟨g1, g2, g3, g4⟩ := R.agg
      have B : loadA g true 5 (.ptr id gg j 0) = some (.agg ee) := by rw [p2]; exact g1
      have hm2 := szVs_mem (List.getElem_mem hlt)
      refine z_of (p1 .i64) ?_; refine z_of B ?_
      obtain ⟨g2', x2, W2, y2, oo2, zz2⟩ := alloc_v (z := [AV.int .i64 0, .bool false, .int .i64 0, .str [], .nilSlc]) A.ok (by decide) rfl
      refine z_p x2 ?_
      obtain ⟨g3', w1, W, w3, o3, w5⟩ := W2.wrs oo2 (n := 5) (v := .agg ee) g2 rfl g3
      refine z_u w1 ?_
      rw [g4] at W
      have ye : Ext g g3' := w3.ext y2 A.ok (Nat.le_refl _)
      have B6 : loadA g3' true 5 (.ptr g.sz 0 0 0) = some (.agg ee) := W.all (RV.len5 R)
      refine z_of B6 ?_
      refine v59 (n := n) (R.ext ye) o3 (by omega) (by omega) (by omega) fun g4' e er e4 o4 VE => ?_
      refine z_ext0 ?_; refine z_ext1 ?_
      have e34 := ext_two ye e4
      have hl1 := spV_take_len l i
      have hl2 := spX_len l[i]
      obtain ⟨w', g5, a1, A5⟩ := appb_t (e := 5) (new := spX l[i]) (A.own.ext e34) (by have := A.fr.sz; have := e34.1; omega) o4 o2 (ext_two A.ext e34) (Nat.le_refl _) VE.src (by simp only [List.nil_append]; omega)
      refine z_p a1 ?_
      refine z_of (inc64 (i := i) (by omega)) ?_
      refine ih (i + 1) g5 w' (by omega) (by omega) ?_
      rw [spV_take hlt]
      exact A.trans o2 (A5.ahead e34)
    · refine z_cf (decide_eq_false (by omega)) ?_
      rw [List.take_of_length_le (by omega)] at A
      unfold p40_23
      have AO := A.own
      rw [List.nil_append] at AO
      refine z_of (b2s_own AO V.lts) ?_
      refine z_of (build2 rfl rfl) ?_
      obtain ⟨g1, w1, W, w3, o3, w5⟩ := (V2.ext A.ext).wrs A.ok (n := 2) (v := .agg [.str cls, .str (spV l)]) rfl rfl rfl
      refine z_u w1 ?_
      have W : Var g1 h.sz [.str cls, .str (spV l)] := W
      refine res1 (W.all rfl) ?_
      exact kk g1 (w3.ext e0g ho (by omega)) o3
end
end Go.Proofs.Ythifmankpcadjaa
namespace Go.Proofs.Ythifmankpcadjaa
open Go.Ab
set_option linter.unusedSimpArgs false
set_option linter.unusedVariables false
def ints (l : List Int) : List (List AV) := l.map fun x => [AV.int .i64 x]
theorem ints_len (l : List Int) : (ints l).length = l.length := by simp [ints]
theorem ints_get {l : List Int} {i : Nat} (h : i < l.length) : (ints l)[i]? = some [AV.int .i64 l[i]] := by
  simp only [ints, List.getElem?_map, List.getElem?_eq_getElem h, Option.map_some]
theorem ints_app (l m : List Int) : ints (l ++ m) = ints l ++ ints m := by simp [ints]
def Buf (b : Nat) (h : AHeap) (v : AV) (l : List Int) : Prop :=
  (v = .nilSlc ∧ l = []) ∨ ∃ id r cap, b ≤ id ∧ v = .slc id r.g 0 l.length cap false ∧ h.row id = some r ∧ r.rw = true ∧ r.m ≤ r.g ∧ r.sz = 1 ∧ l.length ≤ cap ∧ cap ≤ r.es.length ∧ r.es.take l.length = ints l
section
variable {b : Nat} {h h' : AHeap} {v : AV} {l : List Int} {X : Nat → Prop}
theorem Buf.nil (b : Nat) (h : AHeap) : Buf b h .nilSlc [] := .inl ⟨rfl, rfl⟩
theorem Buf.view (B : Buf b h v l) : View h 1 v (ints l) := by
  rcases B with ⟨rfl, rfl⟩ | ⟨id, r, cap, w1, rfl, w3, w4, w5, w6, w7, w8, w9⟩
  · exact View.nil h 1
  · exact .inr ⟨id, r.g, 0, cap, false, r, by rw [ints_len], w3, w5, w6, by rw [List.drop_zero, ints_len]; exact w9, by rw [ints_len]; exact w7⟩
theorem Buf.fr (B : Buf b h v l) (f : Fr X h h') (d : ∀ j, inRow v j → ¬ X j) : Buf b h' v l := by
  rcases B with B | ⟨id, r, cap, w1, rfl, w3, w⟩
  · exact .inl B
  · exact .inr ⟨id, r, cap, w1, rfl, f.row (d id (inRow_slc.2 rfl)) w3, w⟩
theorem Buf.ext (B : Buf b h v l) (e : Ext h h') : Buf b h' v l := B.fr (Fr.of_ext (X := fun _ => False) e) fun _ _ => id
theorem Buf.lt (B : Buf b h v l) (o : h.Ok) {j : Nat} (i : inRow v j) : j < h.sz := by
  rcases B with ⟨rfl, _⟩ | ⟨id, r, cap, w1, rfl, w3, _⟩
  · exact absurd i inRow_nil
  · rw [← inRow_slc.1 i]; exact o.lt (AHeap.row_some.1 w3)
theorem Buf.leaf (B : Buf b h v l) : v.leaf = true := by
  rcases B with ⟨rfl, rfl⟩ | ⟨id, r, cap, w1, rfl, _⟩ <;> rfl
end
abbrev Srt (l : List Int) : Prop := l.Pairwise (· < ·)
theorem srt_ext : ∀ {l m : List Int}, Srt l → Srt m → (∀ x, x ∈ l ↔ x ∈ m) → l = m
  | [], [], _, _, _ => rfl
  | [], y :: m, _, _, h => absurd ((h y).2 List.mem_cons_self) (by simp)
  | x :: l, [], _, _, h => absurd ((h x).1 List.mem_cons_self) (by simp)
  | x :: l, y :: m, sl, sm, h => by
    obtain ⟨s1, s2⟩ := List.pairwise_cons.1 sl
    obtain ⟨t1, t2⟩ := List.pairwise_cons.1 sm
    have hxy : x = y := by
      rcases List.mem_cons.1 ((h x).1 List.mem_cons_self) with e | e
      · exact e
      · rcases List.mem_cons.1 ((h y).2 List.mem_cons_self) with e' | e'
        · exact e'.symm
        · have := t1 x e; have := s1 y e'; omega
    subst hxy
    rw [srt_ext s2 t2 fun z => ?_]
    constructor
    · intro hz
      rcases List.mem_cons.1 ((h z).1 (List.mem_cons_of_mem _ hz)) with e | e
      · have := s1 z hz; omega
      · exact e
    · intro hz
      rcases List.mem_cons.1 ((h z).2 (List.mem_cons_of_mem _ hz)) with e | e
      · have := t1 z hz; omega
      · exact e
theorem srt_get {l : List Int} (s : Srt l) {i j : Nat} (hij : i < j) (hj : j < l.length) : l[i] < l[j] := List.pairwise_iff_getElem.1 s i j (by omega) hj hij
theorem half (s : Nat) (h : s < lim) : ∃ a b c, convA .u64 (.int .i64 (s : Int)) = some a ∧ binA .shr a (.int .u64 1) = some b ∧ convA .i64 b = some c ∧ c = .int .i64 ((s / 2 : Nat) : Int) := by
  have hlm : lim = 4611686018427387904 := rfl
  refine ⟨.int .u64 (s : Int), .int .u64 ((s / 2 : Nat) : Int), .int .i64 ((s / 2 : Nat) : Int), ?_, ?_, ?_, rfl⟩
  · show some (AV.int .u64 (wrapA .u64 (s : Int))) = _
    rw [wrapA_eq]; congr 2; simp [IntKind.wrap, IntKind.bits, IntKind.signed]; omega
  · show shiftA .shr .u64 (s : Int) 1 = _
    simp only [shiftA]
    have : iltb (1 : Int) 0 = false := rfl
    rw [this, cond_false]
    have : min ((1 : Int).toNat) IntKind.u64.bits = 1 := rfl
    rw [this]
    congr 2
    rw [Int.fdiv_eq_ediv_of_nonneg _ (by decide)]
    omega
  · show some (AV.int .i64 (wrapA .i64 ((s / 2 : Nat) : Int))) = _
    rw [wrap64 (by omega) (by omega)]
section
variable {b : Nat} {h : AHeap} {v : AV} {l : List Int} {K : Kont} {n : Nat} {x : Int}
def small (x : Int) : Prop := -1000000000000000000 ≤ x ∧ x ≤ 1000000000000000000
theorem c52 {y : Int} (hx : small x) (hy : small y) (kk : K (.int .i64 (x - y)) h = true) : callN E (n + 1) (.func 52) [.int .i64 x, .int .i64 y] h K = true := by
  unfold small at hx hy
  apply d52
  unfold s52
  refine z_of (sub64 (a := x) (b := y) (by omega) (by omega)) ?_
  exact kk
theorem c58 (V : View h 1 v (ints l)) (s : Srt l) (hl : ∀ y ∈ l, small y) (hx : small x) (hn : l.length < n) (hL : l.length < 1000000000)
    (kk : ∀ i, i ≤ l.length → (∀ j (hj : j < l.length), j < i → l[j] < x) → (∀ j (hj : j < l.length), i ≤ j → x ≤ l[j]) → K (.tup [.int .i64 (i : Int), .bool (decide (x ∈ l))]) h = true) :
    callN E (n + 2) (.func 58) [v, .int .i64 x, .fn (.func 52) [] []] h K = true := by
  have hlm : lim = 4611686018427387904 := rfl
  apply d58
  unfold s58
  have hvl : lenA h 1 v = some (.int .i64 (l.length : Int)) := by rw [V.len, ints_len]
  refine z_of hvl ?_
  suffices H : ∀ m lo hi, hi - lo < m → lo ≤ hi → hi ≤ l.length → (∀ j (hj : j < l.length), j < lo → l[j] < x) → (∀ j (hj : j < l.length), hi ≤ j → x ≤ l[j]) → l58_8 (callN E (n + 1)) (n + 1) m v (.int .i64 x) (.fn (.func 52) [] []) (.int .i64 (l.length : Int)) (.int .i64 (lo : Int)) (.int .i64 (hi : Int)) h K = true from
    H (n + 1) 0 l.length (by omega) (Nat.zero_le _) (Nat.le_refl _) (fun j _ hj => by omega) (fun j hj hj2 => by omega)
  intro m
  induction m with
  | zero => intro lo hi hm; omega
  | succ m ih =>
    intro lo hi hm hlo hhi h1 h2
    unfold l58_8 b58_8
    refine z_lss ?_
    by_cases hlt : lo < hi
    · refine z_ct (decide_eq_true (by omega)) ?_
      obtain ⟨a, b', c, q1, q2, q3, rfl⟩ := half (lo + hi) (by omega)
      refine z_of (nat64 (a := lo) (b := hi) (by omega)) ?_
      refine z_of q1 ?_
      refine z_of q2 ?_
      refine z_of q3 ?_
      generalize hmid : (lo + hi) / 2 = mid
      have hm1 : lo ≤ mid ∧ mid < hi := by omega
      have hml : mid < l.length := by omega
      obtain ⟨id, g, j, p1, p2⟩ := V.at1 (ints_get hml)
      have A : loadA h false 1 (.ptr id g j 0) = some (.int .i64 l[mid]) := by rw [p2]; rfl
      refine z_of (p1 .i64) ?_; refine z_of A ?_; refine z_cv ?_
      refine c52 (hl _ (List.getElem_mem hml)) hx ?_
      refine z_lss ?_
      by_cases hc : l[mid] < x
      · refine z_ct (decide_eq_true (by omega)) ?_
        refine z_of (inc64 (i := mid) (by omega)) ?_
        refine ih (mid + 1) hi (by omega) (by omega) hhi (fun j hj hj2 => ?_) h2
        by_cases e : j = mid
        · subst e; exact hc
        · have := srt_get s (show j < mid by omega) hml; omega
      · refine z_cf (decide_eq_false (by omega)) ?_
        refine ih lo mid (by omega) (by omega) (by omega) h1 fun j hj hj2 => ?_
        by_cases e : j = mid
        · subst e; omega
        · have := srt_get s (show mid < j by omega) hj; omega
    · refine z_cf (decide_eq_false (by omega)) ?_
      have : hi = lo := by omega
      subst this
      unfold p58_23
      have hk := kk hi hhi h1 h2
      by_cases hlt2 : hi < l.length
      · obtain ⟨id, g, j, p1, p2⟩ := V.at1 (ints_get hlt2)
        have A : loadA h false 1 (.ptr id g j 0) = some (.int .i64 l[hi]) := by rw [p2]; rfl
        refine z_lss ?_
        rw [decide_eq_true (show (hi : Int) < (l.length : Int) by omega)]
        refine z_gtt ?_; refine z_some ?_; refine z_gtt ?_; refine z_some ?_; refine z_gtt ?_; refine z_some ?_; refine z_gtt ?_; refine z_of (p1 .i64) ?_; refine z_gtt ?_; refine z_of A ?_; refine z_gtt ?_; refine z_some ?_; refine z_rtt ?_; refine z_cv ?_
        refine c52 (hl _ (List.getElem_mem hlt2)) hx ?_
        refine z_gtt ?_; refine z_eql ?_; refine z_kt ?_
        have e : decide (l[hi] - x = 0) = decide (x ∈ l) := by
          by_cases c : l[hi] = x
          · rw [decide_eq_true (by omega), decide_eq_true (by rw [← c]; exact List.getElem_mem hlt2)]
          · rw [decide_eq_false (by omega), decide_eq_false fun hm => ?_]
            obtain ⟨j, hj, rfl⟩ := List.mem_iff_getElem.1 hm
            by_cases q : j < hi
            · have := h1 j hj q; omega
            · by_cases q2 : j = hi
              · subst q2; exact c rfl
              · have := srt_get s (show hi < j by omega) hj; have := h2 hi hlt2 (Nat.le_refl _); omega
        rw [e]; exact hk
      · refine z_lss ?_
        rw [decide_eq_false (show ¬ (hi : Int) < (l.length : Int) by omega)]
        refine z_gft ?_; refine z_gft ?_; refine z_gft ?_; refine z_gft ?_; refine z_gft ?_; refine z_gft ?_; refine z_rft ?_; refine z_gft ?_; refine z_kf ?_
        have e : decide (x ∈ l) = false := decide_eq_false fun hm => by
          obtain ⟨j, hj, rfl⟩ := List.mem_iff_getElem.1 hm
          have := h1 j hj (by omega); omega
        rw [e] at hk
        exact hk
end
end Go.Proofs.Ythifmankpcadjaa
namespace Go.Proofs.Ythifmankpcadjaa
open Go.Ab
set_option linter.unusedSimpArgs false
set_option linter.unusedVariables false
section
variable {b : Nat} {h : AHeap} {v : AV} {l : List Int} {K : Kont} {n : Nat} {x : Int}
theorem ins_srt {i : Nat} (s : Srt l) (hi : i ≤ l.length) (h1 : ∀ j (hj : j < l.length), j < i → l[j] < x) (h2 : ∀ j (hj : j < l.length), i ≤ j → x ≤ l[j]) (hx : x ∉ l) :
    Srt (l.take i ++ [x] ++ l.drop i) ∧ ∀ y, y ∈ l.take i ++ [x] ++ l.drop i ↔ y = x ∨ y ∈ l := by
  have ht : ∀ y ∈ l.take i, y < x := fun y hy => by
    obtain ⟨j, hj, rfl⟩ := List.mem_iff_getElem.1 hy
    rw [List.length_take] at hj
    rw [List.getElem_take]
    exact h1 j (by omega) (by omega)
  have hd : ∀ y ∈ l.drop i, x < y := fun y hy => by
    obtain ⟨j, hj, rfl⟩ := List.mem_iff_getElem.1 hy
    rw [List.length_drop] at hj
    rw [List.getElem_drop]
    have q := h2 (i + j) (by omega) (by omega)
    by_cases e : x = l[i + j]
    · exact absurd (e ▸ List.getElem_mem _) hx
    · omega
  refine ⟨?_, fun y => ?_⟩
  · rw [List.append_assoc]
    refine List.pairwise_append.2 ⟨s.sublist (List.take_sublist _ _), ?_, fun a ha c hc => ?_⟩
    · exact List.pairwise_cons.2 ⟨hd, s.sublist (List.drop_sublist _ _)⟩
    · rcases List.mem_cons.1 hc with e | e
      · rw [e]; exact ht a ha
      · have := ht a ha; have := hd c e; omega
  · rw [List.append_assoc, List.mem_append]
    show y ∈ l.take i ∨ y ∈ x :: l.drop i ↔ _
    rw [List.mem_cons]
    constructor
    · rintro (q | q | q)
      · exact .inr (List.mem_of_mem_take q)
      · exact .inl q
      · exact .inr (List.mem_of_mem_drop q)
    · rintro (q | q)
      · exact .inr (.inl q)
      · rw [← List.take_append_drop i l, List.mem_append] at q
        exact q.elim .inl fun q => .inr (.inr q)
theorem bnum {x : Int} (o : h.Ok) : bsliceV h 1 1 [.int .i64 0] [(0, .int .i64 x)] = some (.slc h.sz 0 0 1 1 true, Ab.newRow h [[.int .i64 x]] 1) ∧ (Ab.newRow h [[.int .i64 x]] 1).row h.sz = some { es := [[AV.int .i64 x]], sz := 1, g := 0, m := 0, rw := true } ∧ Ext h (Ab.newRow h [[.int .i64 x]] 1) ∧ (Ab.newRow h [[.int .i64 x]] 1).Ok := by
  refine ⟨rfl, ?_, ext_newRow o _ _, ok_newRow o _ _⟩
  rw [AHeap.row_some]; simp only [Ab.newRow, AHeap.get_push, if_pos]
theorem c59 {i a : Nat} {h1 : AHeap} (B : Buf b h1 v l) (o : h1.Ok) (hb : b ≤ h1.sz) (hi : i ≤ l.length) (hl : l.length < 1000000000) (hr : h1.row a = some { es := [[AV.int .i64 x]], sz := 1, g := 0, m := 0, rw := true }) (hne : ∀ j, inRow v j → j ≠ a)
    (kk : ∀ h' v', Buf b h' v' (l.take i ++ [x] ++ l.drop i) → Fr (inRow v) h1 h' → h'.Ok → (∀ j, inRow v' j → inRow v j ∨ h1.sz ≤ j) → K v' h' = true) :
    callN E (n + 1) (.func 59) [v, .int .i64 (i : Int), .slc a 0 0 1 1 true] h1 K = true := by
  show insP (callN E n) n [v, .int .i64 (i : Int), .slc a 0 0 1 1 true] h1 K = true
  show insP (callN E n) n [v, .int .i64 (.ofNat i), .slc a 0 0 1 1 true] h1 K = true
  unfold insP
  have hs : source h1 1 (.slc a 0 0 1 1 true) = some [[AV.int .i64 x]] := by
    simp only [source, hr]; rfl
  simp only [hs, hr]
  show insA v i a x h1 K = true
  rcases B with ⟨rfl, rfl⟩ | ⟨id, r, cap, w1, rfl, w3, w4, w5, w6, w7, w8, w9⟩
  · have : i = 0 := by simpa using hi
    subst this
    show K (.slc h1.sz 0 0 1 1 false) (Ab.newRow h1 [[.int .i64 x]] 1) = true
    refine kk _ _ (.inr ⟨h1.sz, { es := [[AV.int .i64 x]], sz := 1, g := 0, m := 0, rw := true }, 1, hb, rfl, ?_, rfl, Nat.le_refl _, rfl, Nat.le_refl _, Nat.le_refl _, rfl⟩) (Fr.of_ext (ext_newRow o _ _)) (ok_newRow o _ _) fun j hj => .inr (by rw [← inRow_slc.1 hj]; exact Nat.le_refl _)
    rw [AHeap.row_some]; simp only [Ab.newRow, AHeap.get_push, if_pos]
  · have hc : insC r r.g 0 l.length i id a = true := by
      have := hne id (inRow_slc.2 rfl)
      simp only [insC, w4, w6, Nat.beq_refl, nble_true.2 (Nat.le_trans w7 w8), nble_true.2 hi, nblt_true.2 hl, nbeq_false.2 this, Bool.and_self, Bool.not_false]
    unfold insA
    simp only [w3, hc, cond_true]
    have ht : r.es.take l.length = ints l := w9
    have e1 : (r.es.take l.length).take i ++ [[AV.int .i64 x]] ++ (r.es.take l.length).drop i = ints (l.take i ++ [x] ++ l.drop i) := by
      rw [ht, ints_app, ints_app]
      simp only [ints, List.map_take, List.map_drop]; rfl
    have hlen : (l.take i ++ [x] ++ l.drop i).length = l.length + 1 := by simp; omega
    refine kk _ _ (.inr ⟨id, { r with es := (r.es.take l.length).take i ++ [[AV.int .i64 x]] ++ (r.es.take l.length).drop i, g := r.g + 1, m := r.g + 1, ty := none }, l.length + 1, w1, by rw [hlen], AHeap.row_some.2 (get_put_same _ _ _), w4, Nat.le_refl _, w6, by rw [hlen]; exact Nat.le_refl _, ?_, ?_⟩) ((Fr.put (X := fun j => j = id) rfl h1 _).mono fun j e => by rw [e]; exact inRow_slc.2 rfl) (o.put (o.lt (AHeap.row_some.1 w3)) _) fun j hj => .inl (inRow_slc.2 (inRow_slc.1 hj))
    · show l.length + 1 ≤ ((r.es.take l.length).take i ++ [[AV.int .i64 x]] ++ (r.es.take l.length).drop i).length
      rw [e1, ints_len, hlen]; exact Nat.le_refl _
    · show ((r.es.take l.length).take i ++ [[AV.int .i64 x]] ++ (r.es.take l.length).drop i).take _ = _
      rw [e1, List.take_of_length_le (by rw [ints_len]; exact Nat.le_refl _)]
structure Rn (b : Nat) (h : AHeap) (id : Nat) (v : AV) (l : List Int) : Prop where
  var : Var h id [v, .fn (.func 52) [] []]
  buf : Buf b h v l
  srt : Srt l
  sm : ∀ y ∈ l, small y
  len : l.length < 1000000
  ne : ∀ j, inRow v j → j ≠ id
theorem c29 {id : Nat} (R : Rn b h id v l) (o : h.Ok) (hb : b ≤ h.sz) (hx : small x) (hnx : x ∉ l) (hn : l.length < n) (hl : l.length < 999999)
    (kk : ∀ h' v' l', Rn b h' id v' l' → (∀ y, y ∈ l' ↔ y = x ∨ y ∈ l) → Fr (fun j => j = id ∨ inRow v j) h h' → h'.Ok → (∀ j, inRow v' j → inRow v j ∨ h.sz ≤ j) → K (.tup []) h' = true) :
    callN E (n + 3) (.func 29) [.ptr id 0 0 0, .int .i64 x] h K = true := by
  apply d29
  unfold s29
  have A0 : loadA h false 1 (.ptr id 0 0 0) = some v := R.var.get rfl
  have A1 : loadA h false 1 (.ptr id 0 0 1) = some (.fn (.func 52) [] []) := R.var.get rfl
  refine z_nil ?_; refine z_fadr ?_; refine z_of A0 ?_; refine z_nil ?_; refine z_fadr ?_; refine z_of A1 ?_
  refine c58 R.buf.view R.srt R.sm hx hn (by omega) fun i hi h1 h2 => ?_
  refine z_ext0 ?_; refine z_ext1 ?_; refine z_nil ?_; refine z_fadr ?_; refine z_of A0 ?_
  obtain ⟨q1, q2, q3, q4⟩ := bnum (x := x) o
  refine z_p q1 ?_
  have lid := R.var.lt o
  refine c59 (R.buf.ext q3) q4 (Nat.le_trans hb q3.1) hi (by omega) q2 (fun j hj => by have := R.buf.lt o hj; omega) fun hB v' B' f' o' rows => ?_
  have hlt : (Ab.newRow h [[AV.int IntKind.i64 x]] 1).sz = h.sz + 1 := rfl
  obtain ⟨h3, w1, V3, w3, o3, w5⟩ := (f'.var (R.var.ext q3) fun q => R.ne _ q rfl).wr o' (off := 0) (v := v') (show 0 < 2 by decide) B'.leaf
  refine z_nil ?_; refine z_fadr ?_
  refine z_u w1 ?_
  have V3 : Var h3 id [v', .fn (.func 52) [] []] := V3
  obtain ⟨s1, s2⟩ := ins_srt R.srt hi h1 h2 hnx
  have ne' : ∀ j, inRow v' j → j ≠ id := fun j hj => by
    rcases rows j hj with q | q
    · exact R.ne j q
    · omega
  refine kk h3 v' _ ⟨V3, B'.fr (Fr.of_but (X := fun j => j = id) rfl w3) ne', s1, fun y hy => ?_, by simp; omega, ne'⟩ s2 ((Fr.of_ext q3).trans ((f'.mono fun j q => .inr q).trans (Fr.of_but (.inl rfl) w3))) o3 fun j hj => ?_
  · rcases (s2 y).1 hy with q | q
    · rw [q]; exact hx
    · exact R.sm y q
  · rcases rows j hj with q | q
    · exact .inl q
    · exact .inr (by omega)
end
end Go.Proofs.Ythifmankpcadjaa
namespace Go.Proofs.Ythifmankpcadjaa
open Go.Ab
set_option linter.unusedSimpArgs false
set_option linter.unusedVariables false
section
variable {κ β γ : Type} [DecidableEq κ]
def lkG : List (κ × β) → κ → Option β
  | [], _ => none
  | p :: t, k => if k = p.1 then some p.2 else lkG t k
def upG : List (κ × β) → κ → β → List (κ × β)
  | [], k, v => [(k, v)]
  | p :: t, k, v => if k = p.1 then (k, v) :: t else p :: upG t k v
def mp (f : β → γ) (l : List (κ × β)) : List (κ × γ) := l.map fun p => (p.1, f p.2)
theorem lkG_mp (f : β → γ) (k : κ) : ∀ (l : List (κ × β)), lkG (mp f l) k = (lkG l k).map f
  | [] => rfl
  | p :: t => by
    show (if k = p.1 then some (f p.2) else lkG (mp f t) k) = _
    simp only [lkG]
    by_cases e : k = p.1
    · rw [if_pos e, if_pos e]; rfl
    · rw [if_neg e, if_neg e, lkG_mp f k t]
theorem upG_mp (f : β → γ) (k : κ) (v : β) : ∀ (l : List (κ × β)), mp f (upG l k v) = upG (mp f l) k (f v)
  | [] => rfl
  | p :: t => by
    show _ = (if k = p.1 then (k, f v) :: mp f t else (p.1, f p.2) :: upG (mp f t) k (f v))
    simp only [upG]
    by_cases e : k = p.1
    · rw [if_pos e, if_pos e]; rfl
    · rw [if_neg e, if_neg e, ← upG_mp f k v t]; rfl
theorem lk_G (k : κ) : ∀ (l : List (κ × AV)), lk l k = lkG l k
  | [] => rfl
  | p :: t => by simp only [lk, lkG, lk_G k t]
theorem up_G (k : κ) (v : AV) : ∀ (l : List (κ × AV)), up l k v = upG l k v
  | [] => rfl
  | p :: t => by simp only [up, upG, up_G k v t]
theorem upG_none {k : κ} {v : β} : ∀ {l : List (κ × β)}, lkG l k = none → upG l k v = l ++ [(k, v)]
  | [], _ => rfl
  | p :: t, h => by
    simp only [lkG] at h
    simp only [upG]
    by_cases e : k = p.1
    · rw [if_pos e] at h; cases h
    · rw [if_neg e] at h ⊢
      rw [upG_none h]; rfl
theorem upG_mem {k : κ} {v : β} : ∀ {l : List (κ × β)} {x : κ × β}, x ∈ upG l k v → x = (k, v) ∨ x ∈ l
  | [], x, h => .inl (List.mem_singleton.1 h)
  | p :: t, x, h => by
    simp only [upG] at h
    by_cases e : k = p.1
    · rw [if_pos e] at h
      rcases List.mem_cons.1 h with h | h
      · exact .inl h
      · exact .inr (List.mem_cons_of_mem _ h)
    · rw [if_neg e] at h
      rcases List.mem_cons.1 h with h | h
      · exact .inr (by rw [h]; exact List.mem_cons_self)
      · rcases upG_mem h with h | h
        · exact .inl h
        · exact .inr (List.mem_cons_of_mem _ h)
theorem lkG_mem {k : κ} {u : β} : ∀ {l : List (κ × β)}, lkG l k = some u → (k, u) ∈ l
  | [], h => by cases h
  | p :: t, h => by
    simp only [lkG] at h
    by_cases e : k = p.1
    · rw [if_pos e] at h
      cases h; rw [e]; exact List.mem_cons_self
    · rw [if_neg e] at h
      exact List.mem_cons_of_mem _ (lkG_mem h)
theorem lkG_of_mem {k : κ} {u : β} : ∀ {l : List (κ × β)}, (l.map fun p => p.1).Nodup → (k, u) ∈ l → lkG l k = some u
  | [], _, h => by cases h
  | p :: t, hn, h => by
    simp only [List.map_cons, List.nodup_cons] at hn
    simp only [lkG]
    rcases List.mem_cons.1 h with h | h
    · rw [← h]; simp
    · by_cases e : k = p.1
      · exact absurd (List.mem_map.2 ⟨_, h, e⟩) hn.1
      · rw [if_neg e]; exact lkG_of_mem hn.2 h
theorem lkG_none {k : κ} : ∀ {l : List (κ × β)}, lkG l k = none ↔ k ∉ l.map fun p => p.1
  | [] => by simp [lkG]
  | p :: t => by
    simp only [lkG, List.map_cons, List.mem_cons, not_or]
    by_cases e : k = p.1
    · simp [e]
    · rw [if_neg e, lkG_none (l := t)]; simp [e]
theorem lkG_up {k j : κ} {v : β} : ∀ {l : List (κ × β)}, lkG (upG l k v) j = if j = k then some v else lkG l j
  | [] => rfl
  | p :: t => by
    simp only [upG]
    by_cases e : k = p.1
    · rw [if_pos e]
      simp only [lkG, ← e]
      by_cases e2 : j = k
      · rw [if_pos e2, if_pos e2]
      · rw [if_neg e2, if_neg e2, if_neg e2]
    · rw [if_neg e]
      simp only [lkG]
      by_cases e2 : j = p.1
      · rw [if_pos e2, if_neg (fun q => e (q.symm.trans e2)), if_pos e2]
      · rw [if_neg e2, lkG_up (l := t), if_neg e2]
end
section
variable {κ β : Type} [DecidableEq κ]
theorem upG_same {k : κ} {u : β} : ∀ {l : List (κ × β)}, lkG l k = some u → upG l k u = l
  | [], h => by cases h
  | p :: t, h => by
    simp only [lkG] at h
    simp only [upG]
    by_cases e : k = p.1
    · rw [if_pos e] at h ⊢
      cases h; subst e; rfl
    · rw [if_neg e] at h ⊢
      rw [upG_same h]
omit [DecidableEq κ] in
theorem mp_keys {γ : Type} (f : β → γ) (l : List (κ × β)) : (mp f l).map (fun p => p.1) = l.map fun p => p.1 := by simp [mp, List.map_map, Function.comp_def]
end
end Go.Proofs.Ythifmankpcadjaa
namespace Go.Proofs.Ythifmankpcadjaa
open Go.Ab
set_option linter.unusedSimpArgs false
set_option linter.unusedVariables false
def Lt (Q : Nat → Prop) (h h' : AHeap) : Prop := ∀ j o, Q j → h.get j = some o → h'.get j = some o
theorem Lt.refl (Q : Nat → Prop) (h : AHeap) : Lt Q h h := fun _ _ _ g => g
theorem Lt.trans {Q : Nat → Prop} {a b c : AHeap} (p : Lt Q a b) (q : Lt Q b c) : Lt Q a c := fun j o k g => q j o k (p j o k g)
theorem Lt.of_ext {Q : Nat → Prop} {h h' : AHeap} (e : Ext h h') : Lt Q h h' := fun j o _ g => e.2 j o g
theorem Lt.of_fr {Q X : Nat → Prop} {h h' : AHeap} (f : Fr X h h') (d : ∀ j, X j → ¬ Q j) : Lt Q h h' := fun j o q g => f.keep j o (fun x => d j x q) g
def DX (Q : Nat → Prop) (h : AHeap) (e : List AV) (x : Val) : Prop := ∀ h', Lt Q h h' → RV h' e x
def DV (Q : Nat → Prop) (h : AHeap) (v : AV) (l : List Val) : Prop := ∃ es, View h 5 v es ∧ (∀ j, inRow v j → Q j) ∧ All2 (DX Q h) es l
section
variable {Q Q' X : Nat → Prop} {h h' : AHeap} {e : List AV} {x : Val} {v : AV} {l : List Val}
theorem DX.now (D : DX Q h e x) : RV h e x := D h (Lt.refl _ _)
theorem DX.fr (D : DX Q h e x) (L : Lt Q h h') (o : h.Ok) (q : ∀ j, j < h.sz → Q j → Q' j) : DX Q' h' e x := fun h'' L' => D h'' fun j ob k g => L' j ob (q j (o.lt g) k) (L j ob k g)
theorem DX.ext (D : DX Q h e x) (f : Ext h h') : DX Q h' e x := fun h'' L' => D h'' ((Lt.of_ext f).trans L')
theorem _root_.Go.Ab.View.lt {n : Nat} {es : List (List AV)} (V : View h n v es) (L : Lt Q h h') (q : ∀ j, inRow v j → Q j) : View h' n v es := by
  rcases V with V | ⟨id, g, s, cap, ex, r, rfl, h2, h3⟩
  · exact .inl V
  · exact .inr ⟨id, g, s, cap, ex, r, rfl, by rw [AHeap.row_some] at h2 ⊢; exact L _ _ (q id (inRow_slc.2 rfl)) h2, h3⟩
theorem _root_.Go.Ab.View.rlt {n : Nat} {es : List (List AV)} (V : View h n v es) (o : h.Ok) {j : Nat} (i : inRow v j) : j < h.sz := by
  rcases V with ⟨_, rfl | rfl⟩ | ⟨id, g, s, cap, ex, r, rfl, h2, h3⟩
  · exact absurd i inRow_nil
  · obtain ⟨_, _, _, _, _, e⟩ := i; cases e
  · rw [← inRow_slc.1 i]; exact o.lt (AHeap.row_some.1 h2)
theorem DV.now (D : DV Q h v l) : VV h v l := let ⟨es, a, _, c⟩ := D; ⟨es, a, c.mono fun _ _ r => r.now⟩
theorem DV.fr (D : DV Q h v l) (L : Lt Q h h') (o : h.Ok) (q : ∀ j, j < h.sz → Q j → Q' j) : DV Q' h' v l :=
  let ⟨es, a, b, c⟩ := D
  ⟨es, a.lt L b, fun j i => q j (a.rlt o i) (b j i), c.mono fun _ _ r => r.fr L o q⟩
theorem DV.leaf (D : DV Q h v l) : v.leaf = true := D.now.leaf
end
def Mr (h : AHeap) (n : Nat) (v : AV) (es : List (List AV)) : Prop :=
  ∃ id cap ex r, v = .slc id r.g 0 es.length cap ex ∧ h.row id = some r ∧ r.rw = true ∧ r.m ≤ r.g ∧ r.sz = n ∧ r.es = es ∧ es.length ≤ cap
section
variable {h h' : AHeap} {n i : Nat} {v x : AV} {es : List (List AV)} {e : List AV} {X : Nat → Prop}
theorem Mr.view (M : Mr h n v es) : View h n v es := by
  obtain ⟨id, cap, ex, r, rfl, w1, w2, w3, w4, w5, w6⟩ := M
  exact .inr ⟨id, r.g, 0, cap, ex, r, rfl, w1, w3, w4, by rw [w5]; simp, w6⟩
theorem Mr.fr (M : Mr h n v es) (f : Fr X h h') (d : ∀ j, inRow v j → ¬ X j) : Mr h' n v es := by
  obtain ⟨id, cap, ex, r, rfl, w1, w⟩ := M
  exact ⟨id, cap, ex, r, rfl, f.row (d id (inRow_slc.2 rfl)) w1, w⟩
theorem Mr.ext (M : Mr h n v es) (f : Ext h h') : Mr h' n v es := M.fr (X := fun _ => False) (Fr.of_ext f) fun _ _ x => x
theorem Mr.lt (M : Mr h n v es) (o : h.Ok) {j : Nat} (i : inRow v j) : j < h.sz := M.view.rlt o i
theorem Mr.set (O : Mr h n v es) (hi : es[i]? = some e) (hl : e.length = n) (hx : x.cells.length = n) (hf : allLeaf x.cells = true) :
    ∃ id g, (∀ k, iadrA h n v (.int k (i : Int)) = some (.ptr id g i 0)) ∧ inRow v id ∧ ∃ h', storeA h n (.ptr id g i 0) x = some h' ∧ Mr h' n v (es.set i x.cells) ∧ But id h h' ∧ h'.sz = h.sz ∧ (h.Ok → h'.Ok) := by
  have hlt : i < es.length := (List.getElem?_eq_some_iff.1 hi).1
  obtain ⟨id, cap, ex, r, rfl, w3, w4, w5, w6, w7, w8⟩ := O
  refine ⟨id, r.g, fun k => ?_, ⟨_, _, _, _, _, rfl⟩, h.put id (.row { r with es := es.set i x.cells, m := r.g }), ?_, ?_, But.put _ _ _, by simp, fun o => o.put (o.lt (AHeap.row_some.1 w3)) _⟩
  · have : rowSz h id n = true := by simp only [rowSz, w3, nbeq_true]; exact w6
    simp only [iadrA, asNat_nat, nblt_true.2 hlt, this, Bool.and_self, cond_true, Nat.zero_add]
  · have hn : nth r.es i = some e := by rw [nth_eq, w7]; exact hi
    have hlay : lay e 0 x.cells = x.cells := by simp [lay]; omega
    simp only [storeA, w3, w4, Nat.beq_refl, nbeq_true.2 hx, hf, Bool.and_self, cond_true, hn, Nat.zero_add]
    rw [nble_true.2 (by omega), cond_true, setNth_eq, hlay, w7]
  · exact ⟨id, cap, ex, _, by simp only [List.length_set], AHeap.row_some.2 (get_put_same _ _ _), w4, Nat.le_refl _, w6, rfl, by rw [List.length_set]; exact w8⟩
theorem mk_row {by' : Nat} {z : List AV} (o : h.Ok) (hz : z.length = n) (hn : 0 < n) (hl : allLeaf z = true) (h1 : i * by' ≤ most) (h2 : i ≤ most) :
    ∃ v h', mkslA h n by' z (.int .i64 (i : Int)) (.int .i64 (i : Int)) = some (v, h') ∧ Mr h' n v (List.replicate i z) ∧ (∀ j, inRow v j → j = h.sz) ∧ Ext h h' ∧ h'.Ok ∧ h'.sz = h.sz + 1 := by
  have hr : ∀ k, repl k z = List.replicate k z := fun k => by
    induction k with
    | zero => rfl
    | succ k ih => simp only [repl, ih, List.replicate_succ]
  refine ⟨.slc h.sz 0 0 i i true, Ab.newRow h (repl i z) n, ?_, ⟨h.sz, i, true, { es := repl i z, sz := n, g := 0, m := 0, rw := true }, by simp, ?_, rfl, Nat.le_refl _, rfl, hr i, by simp⟩, fun j q => (inRow_slc.1 q).symm, ext_newRow o _ _, ok_newRow o _ _, rfl⟩
  · simp only [mkslA, asNat_nat, nble_true.2 (Nat.le_refl i), nble_true.2 h1, nble_true.2 h2, nbeq_true.2 hz, nblt_true.2 hn, hl, Bool.and_self, cond_true]
  · rw [AHeap.row_some]; simp only [Ab.newRow, AHeap.get_push, if_pos]
end
inductive IK where
  | all
  | c (s : Str)
  | k (s : SK)
inductive PT where
  | p | fm | bm | sm
  | rb (i : IK)
  | rl (i : IK)
  | f (h : Int)
  | st (h : Int)
inductive Tag where
  | out | dat | doc
  | own (o : Nat) (t : PT)
structure FD where
  id : Nat
  cls : Str
  vv : AV
  vs : List Val
  stated : Bool
  born : Nat
  sv : AV
  stamps : List Int
structure RD where
  id : Nat
  v : AV
  l : List Int
structure SD where
  p : Nat
  fm : Nat
  bm : Nat
  sm : Nat
  tb : AV
  most : Int
  next : Nat
  clock : Nat
  fs : List (Int × FD)
  all : RD
  by' : List (Str × RD)
  same : List (SK × RD)
def SD.row (T : SD) : IK → Option RD
  | .all => some T.all
  | .c s => lkG T.by' s
  | .k s => lkG T.same s
def SD.setRow (T : SD) (i : IK) (r : RD) : SD :=
  match i with
  | .all => { T with all := r }
  | .c s => { T with by' := upG T.by' s r }
  | .k s => { T with same := upG T.same s r }
abbrev fp (x : FD) : AV := .ptr x.id 0 0 0
abbrev rp (x : RD) : AV := .ptr x.id 0 0 0
abbrev Out (τ : Nat → Tag) : Nat → Prop := fun j => τ j = .out
structure FO (B : Nat) (τ : Nat → Tag) (o : Nat) (h : AHeap) (k : Int) (x : FD) : Prop where
  tid : τ x.id = .own o (.f k)
  row : Var h x.id [.int .i64 k, .str x.cls, x.vv, .bool x.stated, .int .i64 (x.born : Int), x.sv]
  vals : DV (Out τ) h x.vv x.vs
  sz : szVs x.vs ≤ B
  st : Mr h 1 x.sv (ints x.stamps)
  ts : ∀ j, inRow x.sv j → τ j = .own o (.st k)
structure RO (τ : Nat → Tag) (o : Nat) (h : AHeap) (i : IK) (r : RD) : Prop where
  tid : τ r.id = .own o (.rb i)
  tr : ∀ j, inRow r.v j → τ j = .own o (.rl i)
  rn : Rn 0 h r.id r.v r.l
structure SO (B : Nat) (τ : Nat → Tag) (o : Nat) (h0 h : AHeap) (T : SD) : Prop where
  ok : h.Ok
  k0 : h0.Ok
  e : Ext h0 h
  t0 : ∀ j, j < h0.sz → τ j = .out
  hi : ∀ j, h.sz ≤ j → τ j = .out
  tp : τ T.p = .own o .p
  tf : τ T.fm = .own o .fm
  tb : τ T.bm = .own o .bm
  ts : τ T.sm = .own o .sm
  var : Var h T.p [T.tb, .int .i64 T.most, .int .i64 (T.next : Int), .int .i64 (T.clock : Int), .map T.fm, .ptr T.all.id 0 0 0, .map T.bm, .map T.sm]
  fs : KMap intKey h T.fm (mp fp T.fs)
  by' : KMap strKey h T.bm (mp rp T.by')
  same : KMap sk h T.sm (mp rp T.same)
  f : ∀ k x, (k, x) ∈ T.fs → FO B τ o h k x
  r : ∀ i r, T.row i = some r → RO τ o h i r
abbrev XS (τ : Nat → Tag) (o : Nat) (S : PT → Prop) : Nat → Prop := fun j => ∃ t, S t ∧ τ j = .own o t
structure Tg (τ τ' : Nat → Tag) (h h' : AHeap) : Prop where
  old : ∀ j, j < h.sz → τ' j = τ j
  hi : ∀ j, h'.sz ≤ j → τ' j = .out
section
variable {B : Nat} {τ τ' : Nat → Tag} {o : Nat} {h0 h h' : AHeap} {T : SD} {X : Nat → Prop} {k : Int} {x : FD} {i : IK} {r : RD}
theorem FO.fr (F : FO B τ o h k x) (ok : h.Ok) (f : Fr X h h') (hx : ∀ j, X j → τ j ≠ .out ∧ τ j ≠ .own o (.f k) ∧ τ j ≠ .own o (.st k)) (old : ∀ j, j < h.sz → τ' j = τ j) : FO B τ' o h' k x :=
  ⟨by rw [old _ (F.row.lt ok)]; exact F.tid, f.var F.row fun q => (hx _ q).2.1 F.tid, F.vals.fr (Lt.of_fr f fun j q => (hx j q).1) ok fun j hj e => by show τ' j = .out; rw [old j hj]; exact e, F.sz, F.st.fr f fun j i q => (hx j q).2.2 (F.ts j i), fun j i => by rw [old j (F.st.lt ok i)]; exact F.ts j i⟩
theorem RO.fr (R : RO τ o h i r) (ok : h.Ok) (f : Fr X h h') (hx : ∀ j, X j → τ j ≠ .own o (.rb i) ∧ τ j ≠ .own o (.rl i)) (old : ∀ j, j < h.sz → τ' j = τ j) : RO τ' o h' i r :=
  ⟨by rw [old _ (R.rn.var.lt ok)]; exact R.tid, fun j q => by rw [old j (R.rn.buf.lt ok q)]; exact R.tr j q, f.var R.rn.var fun q => (hx _ q).1 R.tid, R.rn.buf.fr f fun j q w => (hx j w).2 (R.tr j q), R.rn.srt, R.rn.sm, R.rn.len, R.rn.ne⟩
theorem SO.nf (O : SO B τ o h0 h T) : (T.fs.map fun p => p.1).Nodup := by have := O.fs.keys; rwa [mp_keys] at this
theorem SO.low (O : SO B τ o h0 h T) {j : Nat} {t : Tag} (e : τ j = t) (ht : t ≠ .out) : h0.sz ≤ j := by
  by_cases q : j < h0.sz
  · exact absurd (e.symm.trans (O.t0 j q)) ht
  · omega
theorem SO.fr (O : SO B τ o h0 h T) (f : Fr X h h') (ok : h'.Ok) (hx : ∀ j, X j → τ j ≠ .out ∧ ∀ t, τ j ≠ .own o t) (g : Tg τ τ' h h') : SO B τ' o h0 h' T := by
  have no : ∀ {j t}, τ j = .own o t → ¬ X j := fun e x => (hx _ x).2 _ e
  refine ⟨ok, O.k0, f.ext O.e O.k0 fun j x => O.low rfl (hx j x).1, fun j hj => ?_, g.hi, ?_, ?_, ?_, ?_, f.var O.var (no O.tp), f.kmap O.fs (no O.tf), f.kmap O.by' (no O.tb), f.kmap O.same (no O.ts), fun k x hk => (O.f k x hk).fr O.ok f (fun j q => ⟨(hx j q).1, (hx j q).2 _, (hx j q).2 _⟩) g.old, fun i r hr => (O.r i r hr).fr O.ok f (fun j q => ⟨(hx j q).2 _, (hx j q).2 _⟩) g.old⟩
  · rw [g.old j (by have := O.e.1; omega)]; exact O.t0 j hj
  · rw [g.old _ (O.var.lt O.ok)]; exact O.tp
  · rw [g.old _ (O.fs.lt O.ok)]; exact O.tf
  · rw [g.old _ (O.by'.lt O.ok)]; exact O.tb
  · rw [g.old _ (O.same.lt O.ok)]; exact O.ts
theorem SO.tg (O : SO B τ o h0 h T) (s : h.sz ≤ h'.sz) : Tg τ τ h h' := ⟨fun _ _ => rfl, fun j hj => O.hi j (Nat.le_trans s hj)⟩
theorem SO.ext (O : SO B τ o h0 h T) (e : Ext h h') (ok : h'.Ok) : SO B τ o h0 h' T := O.fr (Fr.of_ext (X := fun _ => False) e) ok (fun _ x => x.elim) (O.tg e.1)
theorem SO.step {S : PT → Prop} {T' : SD} (O : SO B τ o h0 h T) (f : Fr (XS τ o S) h h') (ok : h'.Ok) (g : Tg τ τ' h h') (e1 : T'.p = T.p) (e2 : T'.fm = T.fm) (e3 : T'.bm = T.bm) (e4 : T'.sm = T.sm)
    (hv : Var h' T.p [T'.tb, .int .i64 T'.most, .int .i64 (T'.next : Int), .int .i64 (T'.clock : Int), .map T.fm, .ptr T'.all.id 0 0 0, .map T.bm, .map T.sm])
    (hf : KMap intKey h' T.fm (mp fp T'.fs)) (hb : KMap strKey h' T.bm (mp rp T'.by')) (hs : KMap sk h' T.sm (mp rp T'.same))
    (f1 : ∀ k x, (k, x) ∈ T'.fs → FO B τ' o h' k x) (r1 : ∀ i r, T'.row i = some r → RO τ' o h' i r) : SO B τ' o h0 h' T' := by
  refine ⟨ok, O.k0, f.ext O.e O.k0 fun j ⟨t, _, x⟩ => O.low x nofun, fun j hj => ?_, g.hi, ?_, ?_, ?_, ?_, ?_, ?_, ?_, ?_, f1, r1⟩
  · rw [g.old j (by have := O.e.1; omega)]; exact O.t0 j hj
  · rw [e1, g.old _ (O.var.lt O.ok)]; exact O.tp
  · rw [e2, g.old _ (O.fs.lt O.ok)]; exact O.tf
  · rw [e3, g.old _ (O.by'.lt O.ok)]; exact O.tb
  · rw [e4, g.old _ (O.same.lt O.ok)]; exact O.ts
  · rw [e1, e2, e3, e4]; exact hv
  · rw [e2]; exact hf
  · rw [e3]; exact hb
  · rw [e4]; exact hs
theorem xs_no {S : PT → Prop} {j : Nat} {t : PT} (e : τ j = .own o t) (n : ¬ S t) : ¬ XS τ o S j := fun ⟨u, s, q⟩ => by rw [e] at q; cases q; exact n s
theorem xs_ne {S : PT → Prop} {j : Nat} {t : PT} (n : ¬ S t) (x : XS τ o S j) : τ j ≠ .own o t := fun e => xs_no e n x
theorem xs_out {S : PT → Prop} {j : Nat} (x : XS τ o S j) : τ j ≠ .out := fun e => by obtain ⟨t, _, q⟩ := x; rw [e] at q; cases q
theorem SO.f' {S : PT → Prop} (O : SO B τ o h0 h T) (f : Fr (XS τ o S) h h') (g : Tg τ τ' h h') (n1 : ¬ S (.f k)) (n2 : ¬ S (.st k)) (hk : (k, x) ∈ T.fs) : FO B τ' o h' k x :=
  (O.f k x hk).fr O.ok f (fun j q => ⟨xs_out q, xs_ne n1 q, xs_ne n2 q⟩) g.old
theorem SO.r' {S : PT → Prop} (O : SO B τ o h0 h T) (f : Fr (XS τ o S) h h') (g : Tg τ τ' h h') (n1 : ¬ S (.rb i)) (n2 : ¬ S (.rl i)) (hk : T.row i = some r) : RO τ' o h' i r :=
  (O.r i r hk).fr O.ok f (fun j q => ⟨xs_ne n1 q, xs_ne n2 q⟩) g.old
theorem SO.put (O : SO B τ o h0 h T) {nx ck : Nat} (f : Fr (fun j => j = T.p) h h') (ok : h'.Ok) (V : Var h' T.p [T.tb, .int .i64 T.most, .int .i64 (nx : Int), .int .i64 (ck : Int), .map T.fm, .ptr T.all.id 0 0 0, .map T.bm, .map T.sm]) : SO B τ o h0 h' { T with next := nx, clock := ck } := by
  have f' : Fr (XS τ o fun t => t = .p) h h' := f.mono fun j e => ⟨.p, rfl, by rw [e]; exact O.tp⟩
  have g := O.tg f.sz
  refine O.step f' ok g rfl rfl rfl rfl V (f'.kmap O.fs (xs_no O.tf nofun)) (f'.kmap O.by' (xs_no O.tb nofun)) (f'.kmap O.same (xs_no O.ts nofun)) (fun k x hk => O.f' f' g nofun nofun hk) fun i r hr => O.r' f' g nofun nofun hr
end
end Go.Proofs.Ythifmankpcadjaa
namespace Go.Proofs.Ythifmankpcadjaa
open Go.Ab
set_option linter.unusedSimpArgs false
set_option linter.unusedVariables false
theorem c27 {n : Nat} {h : AHeap} {K : Kont} (o : h.Ok) (kk : ∀ h', Ext h h' → h'.Ok → h'.sz = h.sz + 1 → Var h' h.sz [.nilSlc, .fn (.func 52) [] []] → K (.ptr h.sz 0 0 0) h' = true) : callN E (n + 1) (.func 27) [] h K = true := by
  apply d27
  unfold s27
  have e : buildV [.nilSlc, .nilFn] [(1, 1, (AV.fn (.func 52) [] []))] = some (.agg [.nilSlc, .fn (.func 52) [] []]) := rfl
  refine z_of e ?_
  obtain ⟨h1, b1, V1, e1, o1, z1⟩ := box_v (n := 2) (v := .agg [.nilSlc, .fn (.func 52) [] []]) o rfl (by decide) rfl
  refine z_p b1 ?_
  exact kk h1 e1 o1 z1 V1
structure St (o : Nat) (τ τ' : Nat → Tag) (h h' : AHeap) : Prop where
  ok : h'.Ok
  fr : Fr (fun j => ∃ t, τ j = .own o t) h h'
  old : ∀ j, j < h.sz → τ' j = τ j
  new : ∀ j, h.sz ≤ j → τ' j = .out ∨ ((∃ t, τ' j = .own o t) ∧ j < h'.sz)
section
variable {τ τ' τ'' : Nat → Tag} {o : Nat} {h h' h'' : AHeap}
theorem St.trans (k : h.Ok) (a : St o τ τ' h h') (b : St o τ' τ'' h' h'') : St o τ τ'' h h'' := by
  refine ⟨b.ok, ?_, fun j hj => ?_, fun j hj => ?_⟩
  · refine fr_acc k a.fr b.fr fun j hj => ?_
    by_cases q : j < h.sz
    · left; rw [← a.old j q]; exact hj
    · right; omega
  · have := a.fr.sz; rw [b.old j (by omega), a.old j hj]
  · by_cases q : j < h'.sz
    · rw [b.old j q]
      rcases a.new j hj with e | e
      · exact .inl e
      · exact .inr ⟨e.1, by have := b.fr.sz; omega⟩
    · exact b.new j (by omega)
theorem St.ext (e : Ext h h') (ok : h'.Ok) (hi : ∀ j, h.sz ≤ j → τ j = .out) : St o τ τ h h' := ⟨ok, Fr.of_ext e, fun _ _ => rfl, fun j hj => .inl (hi j hj)⟩
theorem DV.st {v : AV} {l : List Val} (D : DV (Out τ) h v l) (ok : h.Ok) (s : St o τ τ' h h') : DV (Out τ') h' v l :=
  D.fr (Lt.of_fr s.fr fun j ⟨t, e⟩ q => by rw [show τ j = .out from q] at e; cases e) ok fun j hj q => (s.old j hj).trans q
end
deriving instance DecidableEq for IK
theorem row_set (T : SD) (i j : IK) (r : RD) : (T.setRow i r).row j = if j = i then some r else T.row j := by
  cases i <;> cases j <;> simp [SD.setRow, SD.row, lkG_up]
structure Rs (T T' : SD) (i : IK) (P : Int → Prop) : Prop where
  eq : T' = { T with all := T'.all, by' := T'.by', same := T'.same }
  ne : ∀ j, j ≠ i → T'.row j = T.row j
  at' : ∀ y, (∃ r, T'.row i = some r ∧ y ∈ r.l) ↔ P y
noncomputable def tagAt (τ : Nat → Tag) (P : Nat → Prop) (t : Tag) : Nat → Tag := fun j => open Classical in if P j then t else τ j
theorem tagAt_in {τ : Nat → Tag} {P : Nat → Prop} {t : Tag} {j : Nat} (h : P j) : tagAt τ P t j = t := by unfold tagAt; rw [if_pos h]
theorem tagAt_out {τ : Nat → Tag} {P : Nat → Prop} {t : Tag} {j : Nat} (h : ¬ P j) : tagAt τ P t j = τ j := by unfold tagAt; rw [if_neg h]
section
variable {B : Nat} {τ τ' : Nat → Tag} {o : Nat} {h0 h h' : AHeap} {T : SD} {i : IK} {r : RD}
theorem SO.setK (O : SO B τ o h0 h T) (hr : T.row i = some r) (v' : AV) (l' : List Int) :
    mp rp (T.setRow i ⟨r.id, v', l'⟩).by' = mp rp T.by' ∧ mp rp (T.setRow i ⟨r.id, v', l'⟩).same = mp rp T.same ∧ (T.setRow i ⟨r.id, v', l'⟩).all.id = T.all.id := by
  cases i with
  | all => simp only [SD.row, Option.some.injEq] at hr; subst hr; exact ⟨rfl, rfl, rfl⟩
  | c s =>
    simp only [SD.row] at hr
    refine ⟨?_, rfl, rfl⟩
    show mp rp (upG T.by' s _) = _
    rw [upG_mp, upG_same]; rw [lkG_mp, hr]; rfl
  | k s =>
    simp only [SD.row] at hr
    refine ⟨rfl, ?_, rfl⟩
    show mp rp (upG T.same s _) = _
    rw [upG_mp, upG_same]; rw [lkG_mp, hr]; rfl
theorem SO.rowSet (O : SO B τ o h0 h T) (hr : T.row i = some r) {v' : AV} {l' : List Int} (R : Rn 0 h' r.id v' l') (f : Fr (fun j => j = r.id ∨ inRow r.v j) h h') (ok : h'.Ok) (rows : ∀ j, inRow v' j → inRow r.v j ∨ h.sz ≤ j) :
    ∃ τ', SO B τ' o h0 h' (T.setRow i ⟨r.id, v', l'⟩) ∧ St o τ τ' h h' := by
  have Ri := O.r i r hr
  have lid := Ri.rn.var.lt O.ok
  let S : PT → Prop := fun t => t = .rb i ∨ t = .rl i
  have f' : Fr (XS τ o S) h h' := f.mono fun j e => by
    rcases e with e | e
    · exact ⟨.rb i, .inl rfl, by rw [e]; exact Ri.tid⟩
    · exact ⟨.rl i, .inr rfl, Ri.tr j e⟩
  have old : ∀ j, j < h.sz → tagAt τ (inRow v') (.own o (.rl i)) j = τ j := fun j hj => by
    by_cases q : inRow v' j
    · rw [tagAt_in q]
      rcases rows j q with e | e
      · exact (Ri.tr j e).symm
      · omega
    · exact tagAt_out q
  have g : Tg τ (tagAt τ (inRow v') (.own o (.rl i))) h h' := ⟨old, fun j hj => by
    rw [tagAt_out fun q => by have := R.buf.lt ok q; omega]; exact O.hi j (Nat.le_trans f.sz hj)⟩
  obtain ⟨k1, k2, k3⟩ := O.setK hr v' l'
  have sp : (T.setRow i ⟨r.id, v', l'⟩).p = T.p ∧ (T.setRow i ⟨r.id, v', l'⟩).fm = T.fm ∧ (T.setRow i ⟨r.id, v', l'⟩).bm = T.bm ∧ (T.setRow i ⟨r.id, v', l'⟩).sm = T.sm ∧ (T.setRow i ⟨r.id, v', l'⟩).tb = T.tb ∧ (T.setRow i ⟨r.id, v', l'⟩).most = T.most ∧ (T.setRow i ⟨r.id, v', l'⟩).next = T.next ∧ (T.setRow i ⟨r.id, v', l'⟩).clock = T.clock ∧ (T.setRow i ⟨r.id, v', l'⟩).fs = T.fs := by
    cases i <;> exact ⟨rfl, rfl, rfl, rfl, rfl, rfl, rfl, rfl, rfl⟩
  obtain ⟨p1, p2, p3, p4, p5, p6, p7, p8, p9⟩ := sp
  refine ⟨_, O.step f' ok g p1 p2 p3 p4 ?_ ?_ ?_ ?_ (fun k x hk => ?_) fun i' r' hr' => ?_, ok, f'.mono fun j ⟨t, _, e⟩ => ⟨t, e⟩, old, fun j hj => ?_⟩
  · rw [p5, p6, p7, p8, k3]; exact f'.var O.var (xs_no O.tp nofun)
  · rw [p9]; exact f'.kmap O.fs (xs_no O.tf nofun)
  · rw [k1]; exact f'.kmap O.by' (xs_no O.tb nofun)
  · rw [k2]; exact f'.kmap O.same (xs_no O.ts nofun)
  · rw [p9] at hk; exact O.f' f' g nofun nofun hk
  · rw [row_set] at hr'
    by_cases e : i' = i
    · rw [if_pos e] at hr'
      cases hr'; subst e
      exact ⟨by rw [old _ lid]; exact Ri.tid, fun j q => tagAt_in q, R⟩
    · rw [if_neg e] at hr'
      exact O.r' f' g (fun q => by rcases q with q | q <;> cases q; exact e rfl) (fun q => by rcases q with q | q <;> cases q; exact e rfl) hr'
  · by_cases q : inRow v' j
    · exact .inr ⟨⟨_, tagAt_in q⟩, R.buf.lt ok q⟩
    · rw [tagAt_out q]; exact .inl (O.hi j hj)
theorem SO.newBy {s : Str} (O : SO B τ o h0 h T) (hn : lkG T.by' s = none) (f : Fr (fun j => j = T.bm) h h') (ok : h'.Ok) (V : Var h' h.sz [.nilSlc, .fn (.func 52) [] []]) (M : KMap strKey h' T.bm (up (mp rp T.by') s (.ptr h.sz 0 0 0))) :
    ∃ τ', SO B τ' o h0 h' (T.setRow (.c s) ⟨h.sz, .nilSlc, []⟩) ∧ St o τ τ' h h' := by
  let S : PT → Prop := fun t => t = .bm
  have f' : Fr (XS τ o S) h h' := f.mono fun j e => ⟨.bm, rfl, by rw [e]; exact O.tb⟩
  have old : ∀ j, j < h.sz → tagAt τ (fun j => j = h.sz) (.own o (.rb (.c s))) j = τ j := fun j hj => tagAt_out (by omega)
  have lt := V.lt ok
  have g : Tg τ (tagAt τ (fun j => j = h.sz) (.own o (.rb (.c s)))) h h' := ⟨old, fun j hj => by rw [tagAt_out (by omega)]; exact O.hi j (Nat.le_trans f.sz hj)⟩
  refine ⟨_, O.step (T' := T.setRow (.c s) ⟨h.sz, .nilSlc, []⟩) f' ok g rfl rfl rfl rfl (f'.var O.var (xs_no O.tp nofun)) (f'.kmap O.fs (xs_no O.tf nofun)) ?_ (f'.kmap O.same (xs_no O.ts nofun)) (fun k x hk => O.f' f' g nofun nofun hk) (fun i' r' hr' => ?_), ok, f'.mono fun j ⟨t, _, e⟩ => ⟨t, e⟩, old, fun j hj => ?_⟩
  · show KMap strKey h' T.bm (mp rp (upG T.by' s _))
    rw [upG_mp, ← up_G]; exact M
  · rw [row_set] at hr'
    by_cases e : i' = .c s
    · rw [if_pos e] at hr'
      cases hr'; subst e
      exact ⟨tagAt_in rfl, fun j q => absurd q inRow_nil, V, Buf.nil _ _, .nil, nofun, by simp, fun j q => absurd q inRow_nil⟩
    · rw [if_neg e] at hr'
      exact O.r' f' g nofun nofun hr'
  · by_cases q : j = h.sz
    · exact .inr ⟨⟨_, tagAt_in q⟩, by omega⟩
    · rw [tagAt_out (P := fun j => j = h.sz) q]; exact .inl (O.hi j hj)
theorem SO.newSame {s : SK} (O : SO B τ o h0 h T) (hn : lkG T.same s = none) (f : Fr (fun j => j = T.sm) h h') (ok : h'.Ok) (V : Var h' h.sz [.nilSlc, .fn (.func 52) [] []]) (M : KMap sk h' T.sm (up (mp rp T.same) s (.ptr h.sz 0 0 0))) :
    ∃ τ', SO B τ' o h0 h' (T.setRow (.k s) ⟨h.sz, .nilSlc, []⟩) ∧ St o τ τ' h h' := by
  let S : PT → Prop := fun t => t = .sm
  have f' : Fr (XS τ o S) h h' := f.mono fun j e => ⟨.sm, rfl, by rw [e]; exact O.ts⟩
  have old : ∀ j, j < h.sz → tagAt τ (fun j => j = h.sz) (.own o (.rb (.k s))) j = τ j := fun j hj => tagAt_out (by omega)
  have lt := V.lt ok
  have g : Tg τ (tagAt τ (fun j => j = h.sz) (.own o (.rb (.k s)))) h h' := ⟨old, fun j hj => by rw [tagAt_out (by omega)]; exact O.hi j (Nat.le_trans f.sz hj)⟩
  refine ⟨_, O.step (T' := T.setRow (.k s) ⟨h.sz, .nilSlc, []⟩) f' ok g rfl rfl rfl rfl (f'.var O.var (xs_no O.tp nofun)) (f'.kmap O.fs (xs_no O.tf nofun)) (f'.kmap O.by' (xs_no O.tb nofun)) ?_ (fun k x hk => O.f' f' g nofun nofun hk) (fun i' r' hr' => ?_), ok, f'.mono fun j ⟨t, _, e⟩ => ⟨t, e⟩, old, fun j hj => ?_⟩
  · show KMap sk h' T.sm (mp rp (upG T.same s _))
    rw [upG_mp, ← up_G]; exact M
  · rw [row_set] at hr'
    by_cases e : i' = .k s
    · rw [if_pos e] at hr'
      cases hr'; subst e
      exact ⟨tagAt_in rfl, fun j q => absurd q inRow_nil, V, Buf.nil _ _, .nil, nofun, by simp, fun j q => absurd q inRow_nil⟩
    · rw [if_neg e] at hr'
      exact O.r' f' g nofun nofun hr'
  · by_cases q : j = h.sz
    · exact .inr ⟨⟨_, tagAt_in q⟩, by omega⟩
    · rw [tagAt_out (P := fun j => j = h.sz) q]; exact .inl (O.hi j hj)
theorem SO.l0 (O : SO B τ o h0 h T) : loadA h false 1 (.ptr T.p 0 0 0) = some T.tb := O.var.get rfl
theorem SO.l1 (O : SO B τ o h0 h T) : loadA h false 1 (.ptr T.p 0 0 1) = some (.int .i64 T.most) := O.var.get rfl
theorem SO.l2 (O : SO B τ o h0 h T) : loadA h false 1 (.ptr T.p 0 0 2) = some (.int .i64 (T.next : Int)) := O.var.get rfl
theorem SO.l3 (O : SO B τ o h0 h T) : loadA h false 1 (.ptr T.p 0 0 3) = some (.int .i64 (T.clock : Int)) := O.var.get rfl
theorem SO.l4 (O : SO B τ o h0 h T) : loadA h false 1 (.ptr T.p 0 0 4) = some (.map T.fm) := O.var.get rfl
theorem SO.l5 (O : SO B τ o h0 h T) : loadA h false 1 (.ptr T.p 0 0 5) = some (.ptr T.all.id 0 0 0) := O.var.get rfl
theorem SO.l6 (O : SO B τ o h0 h T) : loadA h false 1 (.ptr T.p 0 0 6) = some (.map T.bm) := O.var.get rfl
theorem SO.l7 (O : SO B τ o h0 h T) : loadA h false 1 (.ptr T.p 0 0 7) = some (.map T.sm) := O.var.get rfl
theorem SO.lkb (O : SO B τ o h0 h T) {s : Str} {r : RD} (e : T.row (.c s) = some r) : lookA h (.leaf .str) false .nilPtr (.map T.bm) (.str s) = some (.ptr r.id 0 0 0) := by
  have := O.by'.look strKeys .nilPtr s
  have e : lkG T.by' s = some r := e
  rw [lk_G, lkG_mp, e] at this; exact this
theorem SO.lkb0 (O : SO B τ o h0 h T) {s : Str} (e : T.row (.c s) = none) : lookA h (.leaf .str) false .nilPtr (.map T.bm) (.str s) = some .nilPtr := by
  have := O.by'.look strKeys .nilPtr s
  have e : lkG T.by' s = none := e
  rw [lk_G, lkG_mp, e] at this; exact this
theorem SO.lks (O : SO B τ o h0 h T) {s : SK} {r : RD} (e : T.row (.k s) = some r) : lookA h (.st [.str, .str]) false .nilPtr (.map T.sm) (sk s) = some (.ptr r.id 0 0 0) := by
  have := O.same.look sks .nilPtr s
  have e : lkG T.same s = some r := e
  rw [lk_G, lkG_mp, e] at this; exact this
theorem SO.lks0 (O : SO B τ o h0 h T) {s : SK} (e : T.row (.k s) = none) : lookA h (.st [.str, .str]) false .nilPtr (.map T.sm) (sk s) = some .nilPtr := by
  have := O.same.look sks .nilPtr s
  have e : lkG T.same s = none := e
  rw [lk_G, lkG_mp, e] at this; exact this
theorem SO.lkf (O : SO B τ o h0 h T) (k : Int) : lookA h (.leaf .int) true .nilPtr (.map T.fm) (.int .i64 k) = some (.tup [((lkG T.fs k).map fp).getD .nilPtr, .bool (lkG T.fs k).isSome]) := by
  have := O.fs.look2 intKeys .nilPtr k
  rw [lk_G, lkG_mp] at this
  have h2 : ((lkG T.fs k).map fp).isSome = (lkG T.fs k).isSome := by cases lkG T.fs k <;> rfl
  rw [h2] at this; exact this
end
section
variable {B : Nat} {τ : Nat → Tag} {o : Nat} {h : AHeap} {k : Int} {x : FD}
theorem FO.l0 (F : FO B τ o h k x) : loadA h false 1 (.ptr x.id 0 0 0) = some (.int .i64 k) := F.row.get rfl
theorem FO.l1 (F : FO B τ o h k x) : loadA h false 1 (.ptr x.id 0 0 1) = some (.str x.cls) := F.row.get rfl
theorem FO.l2 (F : FO B τ o h k x) : loadA h false 1 (.ptr x.id 0 0 2) = some x.vv := F.row.get rfl
end
end Go.Proofs.Ythifmankpcadjaa
namespace Go.Proofs.Ythifmankpcadjaa
open Go.Ab
set_option linter.unusedSimpArgs false
set_option linter.unusedVariables false
section
variable {B : Nat} {τ τ' : Nat → Tag} {o : Nat} {h0 h h' : AHeap} {T T' : SD} {i : IK} {r : RD} {K : Kont} {n : Nat} {k : Int} {x : FD} {P : Int → Prop}
theorem St.var (O : SO B τ o h0 h T) (s : St o τ τ' h h') {j : Nat} {c : List AV} (V : Var h j c) (e : τ j = .out) : Var h' j c := s.fr.var V fun ⟨t, q⟩ => by rw [e] at q; cases q
theorem put_row (O : SO B τ o h0 h T) (hr : T.row i = some r) (hx : small k) (hnx : k ∉ r.l) (hn : r.l.length < n) (hl : r.l.length < 999999)
    (kk : ∀ h' τ' r', SO B τ' o h0 h' (T.setRow i r') → St o τ τ' h h' → r'.id = r.id → (∀ y, y ∈ r'.l ↔ y = k ∨ y ∈ r.l) → K (.tup []) h' = true) :
    callN E (n + 3) (.func 29) [.ptr r.id 0 0 0, .int .i64 k] h K = true := by
  refine c29 (O.r i r hr).rn O.ok (Nat.zero_le _) hx hnx hn hl fun h' v' l' R m f ok rows => ?_
  obtain ⟨τ', O', s⟩ := O.rowSet hr R f ok rows
  exact kk h' τ' ⟨r.id, v', l'⟩ O' s rfl m
theorem rs_set {r' : RD} (hP : ∀ y, y ∈ r'.l ↔ P y) : Rs T (T.setRow i r') i P := by
  refine ⟨?_, fun j e => by rw [row_set, if_neg e], fun y => ?_⟩
  · cases i <;> rfl
  · rw [row_set, if_pos rfl, ← hP]
    constructor
    · rintro ⟨r, e, q⟩; cases e; exact q
    · exact fun q => ⟨r', rfl, q⟩
def keyOf (x : FD) : SK := (x.cls, spV x.vs)
theorem c30 (O : SO B τ o h0 h T) (hk : (k, x) ∈ T.fs) (hx : small k) (hnx : ∀ r, T.row (.k (keyOf x)) = some r → k ∉ r.l) (hl : ∀ r, T.row (.k (keyOf x)) = some r → r.l.length < 999999) (hB : B < 10000000000) (hn : B + 1000042 ≤ n) (hL : n < lim - 9)
    (kk : ∀ h' τ' T', SO B τ' o h0 h' T' → St o τ τ' h h' → Rs T T' (.k (keyOf x)) (fun y => y = k ∨ ∃ r, T.row (.k (keyOf x)) = some r ∧ y ∈ r.l) → K (.tup []) h' = true) :
    callN E (n + 5) (.func 30) [.ptr T.p 0 0 0, .ptr x.id 0 0 0] h K = true := by
  have F := O.f k x hk
  apply d30
  unfold s30
  refine z_nil ?_; refine z_fadr ?_; refine z_of F.l1 ?_; refine z_nil ?_; refine z_fadr ?_; refine z_of F.l2 ?_
  obtain ⟨h1, b1, V1, e1, o1, z1⟩ := alloc_v (z := [AV.str [], AV.str []]) O.ok (by decide) rfl
  refine z_p b1 ?_
  have O1 := O.ext e1 o1
  have F1 := O1.f k x hk
  refine z_same F1.l1 (same_str _) ?_
  refine z_same F1.l2 F1.vals.now.sm ?_
  refine c40 F1.vals.now o1 (by have := F.sz; omega) (by have := F.sz; omega) hL fun h2 e2 o2 => ?_
  obtain ⟨h3, w1, V3, w3, o3, w5⟩ := (V1.ext e2).wrs o2 (n := 2) (v := .agg [.str x.cls, .str (spV x.vs)]) rfl rfl rfl
  refine z_u w1 ?_
  have V3 : Var h3 h.sz [.str x.cls, .str (spV x.vs)] := V3
  have e3 : Ext h h3 := w3.ext (ext_two e1 e2) O.ok (Nat.le_refl _)
  have O3 := O.ext e3 o3
  have A3 : loadA h3 true 2 (.ptr h.sz 0 0 0) = some (sk (keyOf x)) := V3.all rfl
  have t3 : τ h.sz = .out := O.hi _ (Nat.le_refl _)
  have s3 : St o τ τ h h3 := St.ext e3 o3 O.hi
  have fin : ∀ h4 τ4 T4 r4, SO B τ4 o h0 h4 T4 → St o τ τ4 h h4 → τ4 h.sz = .out → Var h4 h.sz [.str x.cls, .str (spV x.vs)] → (k, x) ∈ T4.fs → T4.p = T.p → T4.row (.k (keyOf x)) = some r4 → k ∉ r4.l → r4.l.length < 999999 →
      (∀ r', (∀ y, y ∈ r'.l ↔ y = k ∨ y ∈ r4.l) → Rs T (T4.setRow (.k (keyOf x)) r') (.k (keyOf x)) (fun y => y = k ∨ ∃ r, T.row (.k (keyOf x)) = some r ∧ y ∈ r.l)) →
      p30_8 (callN E (n + 4)) (n + 4) (.ptr T.p 0 0 0) (.ptr x.id 0 0 0) (.ptr h.sz 0 0 0) h4 K = true := by
    intro h4 τ4 T4 r4 O4 s4 t4 V4 hk4 hp hr hnr hlr fin'
    unfold p30_8
    have A4 : loadA h4 true 2 (.ptr h.sz 0 0 0) = some (sk (keyOf x)) := V4.all rfl
    have L7 : loadA h4 false 1 (.ptr T.p 0 0 7) = some (.map T4.sm) := by rw [← hp]; exact O4.l7
    have F4 := O4.f k x hk4
    refine z_nil ?_; refine z_fadr ?_; refine z_of L7 ?_; refine z_of A4 ?_; refine z_of (O4.lks hr) ?_; refine z_nil ?_; refine z_fadr ?_; refine z_of F4.l0 ?_
    refine put_row (n := n + 1) O4 hr hx hnr (by omega) hlr fun h5 τ5 r5 O5 s5 _ m5 => ?_
    exact kk h5 τ5 _ O5 (s4.trans O.ok s5) (fin' r5 m5)
  refine z_nil ?_; refine z_fadr ?_; refine z_of O3.l7 ?_; refine z_of A3 ?_
  cases hr : T.row (.k (keyOf x)) with
  | none =>
    refine z_of (O3.lks0 hr) ?_; refine z_eqn ?_; refine z_cT ?_; refine z_nil ?_; refine z_fadr ?_; refine z_of O3.l7 ?_; refine z_of A3 ?_
    refine c27 o3 fun h4 e4 o4 z4 V4 => ?_
    have O4 := O3.ext e4 o4
    refine z_same O4.l7 (same_map _) ?_
    have W4 := V3.ext e4
    have A4 : loadA h4 true 2 (.ptr h.sz 0 0 0) = some (sk (keyOf x)) := W4.all rfl
    refine z_same A4 (same_agg (by simp only [sames, same_str, Bool.and_self])) ?_
    obtain ⟨h5, u1, u2, u3, u4, u5⟩ := O4.same.upd sks (keyOf x) (.ptr h3.sz 0 0 0)
    refine z_u u1 ?_
    have lsm := O3.same.lt o3
    have V5 := u2.var V4 (show h3.sz ≠ T.sm by omega)
    have hn' : lkG T.same (keyOf x) = none := hr
    obtain ⟨τ5, O5, s5⟩ := O3.newSame (s := keyOf x) hn' ((Fr.of_ext e4).trans (Fr.of_but rfl u2)) (u4 o4) V5 u5
    have t5 : τ5 h.sz = .out := by rw [s5.old _ (V3.lt o3)]; exact t3
    refine fin h5 τ5 _ ⟨h3.sz, .nilSlc, []⟩ O5 (s3.trans O.ok s5) t5 (s5.var O3 V3 t3) hk rfl (by rw [row_set, if_pos rfl]) (by simp) (by simp) fun r' m => ?_
    have := rs_set (T := T.setRow (.k (keyOf x)) ⟨h3.sz, .nilSlc, []⟩) (i := .k (keyOf x)) (r' := r') (P := fun y => y = k ∨ ∃ r, T.row (.k (keyOf x)) = some r ∧ y ∈ r.l) fun y => by
      rw [m]
      constructor
      · rintro (q | q)
        · exact .inl q
        · cases q
      · rintro (q | ⟨r, e, q⟩)
        · exact .inl q
        · rw [hr] at e; cases e
    exact ⟨by rw [this.eq]; rfl, fun j hj => by rw [this.ne j hj, row_set, if_neg hj], this.at'⟩
  | some r =>
    refine z_of (O3.lks hr) ?_; refine z_eqp ?_; refine z_cF ?_
    refine fin h3 τ T r O3 s3 t3 V3 hk rfl hr (hnx r hr) (hl r hr) fun r' m => ?_
    refine rs_set fun y => ?_
    rw [m]
    constructor
    · rintro (q | q)
      · exact .inl q
      · exact .inr ⟨r, hr, q⟩
    · rintro (q | ⟨r2, e, q⟩)
      · exact .inl q
      · rw [hr] at e; cases e; exact .inr q
end
end Go.Proofs.Ythifmankpcadjaa
namespace Go.Proofs.Ythifmankpcadjaa
open Go.Ab
set_option linter.unusedSimpArgs false
set_option linter.unusedVariables false
theorem u64w {m : Nat} (h : m < 18446744073709551616) : IntKind.u64.wrap (m : Int) = (m : Int) := by
  show (m : Int) % _ = _
  exact Int.emod_eq_of_lt (by omega) (by exact_mod_cast h)
theorem m_shl {i : Nat} (h : i < 64) : binA .shl (.int .u64 1) (.int .i64 (i : Int)) = some (.int .u64 ((2 ^ i : Nat) : Int)) := by
  rw [shl_eq]
  have : shl1 i = ((2 ^ i : Nat) : Int) := by
    unfold shl1
    rw [Nat.min_eq_left (by omega), Int.one_mul]
    have h2 : 2 ^ i < 18446744073709551616 := Nat.pow_lt_pow_right (a := 2) (n := 64) (m := i) (by decide) h
    have : ((2 : Int) ^ i) = ((2 ^ i : Nat) : Int) := by push_cast; rfl
    rw [this, u64w h2]
  rw [this]
theorem m_or {a b : Nat} (ha : a < 18446744073709551616) (hb : b < 18446744073709551616) : binA .or (.int .u64 (a : Int)) (.int .u64 (b : Int)) = some (.int .u64 ((a ||| b : Nat) : Int)) := by
  rw [or_eq]
  have : orU a b = ((a ||| b : Nat) : Int) := by
    unfold orU
    have h1 : (BitVec.ofInt 64 (a : Int) ||| BitVec.ofInt 64 (b : Int)).toNat = a ||| b := by
      rw [BitVec.toNat_or, BitVec.ofInt_natCast, BitVec.ofInt_natCast, BitVec.toNat_ofNat, BitVec.toNat_ofNat, Nat.mod_eq_of_lt ha, Nat.mod_eq_of_lt hb]
    rw [h1]
    exact u64w (Nat.or_lt_two_pow (n := 64) ha hb)
  rw [this]
theorem m_shr {m i : Nat} (h : i < 64) : binA .shr (.int .u64 (m : Int)) (.int .i64 (i : Int)) = some (.int .u64 ((m >>> i : Nat) : Int)) := by
  have : iltb (i : Int) 0 = false := by rw [iltb_dec]; simp
  simp only [binA, isShift, cond_true, shiftA, this, cond_false]
  have h1 : min ((i : Int).toNat) IntKind.u64.bits = i := by
    rw [Int.toNat_natCast]; exact Nat.min_eq_left (by show i ≤ 64; omega)
  rw [h1]
  have : (m : Int).fdiv (2 ^ i) = ((m >>> i : Nat) : Int) := by
    rw [Nat.shiftRight_eq_div_pow, Int.fdiv_eq_ediv_of_nonneg _ (Int.pow_nonneg (by decide))]
    push_cast; rfl
  rw [← this]
theorem m_bit {m i : Nat} (hm : m < 18446744073709551616) : ∃ v, binA .and (.int .u64 ((m >>> i : Nat) : Int)) (.int .u64 1) = some v ∧ binA .eql v (.int .u64 1) = some (.bool (m.testBit i)) := by
  have hs : m >>> i < 18446744073709551616 := Nat.lt_of_le_of_lt (Nat.shiftRight_le _ _) hm
  refine ⟨.int .u64 (((m >>> i) &&& 1 : Nat) : Int), ?_, ?_⟩
  · rw [binA_ints _ _ _ _ rfl]
    show some (AV.int .u64 (IntKind.u64.wrap (((BitVec.ofInt 64 ((m >>> i : Nat) : Int)) &&& BitVec.ofInt 64 1).toNat : Nat))) = _
    have h1 : (BitVec.ofInt 64 ((m >>> i : Nat) : Int) &&& BitVec.ofInt 64 1).toNat = (m >>> i) &&& 1 := by
      rw [BitVec.toNat_and, BitVec.ofInt_natCast, BitVec.toNat_ofNat, Nat.mod_eq_of_lt hs]; rfl
    rw [h1, u64w (Nat.lt_of_le_of_lt Nat.and_le_left hs)]
  · rw [binA_eql]
    congr 2
    rw [Nat.testBit, Nat.and_comm 1]
    have : (m >>> i) &&& 1 = 0 ∨ (m >>> i) &&& 1 = 1 := by rw [Nat.and_one_is_mod]; omega
    rcases this with e | e <;> rw [e] <;> rfl
theorem c54 {n : Nat} {f : Fld} {s : Str} {p : Nat} {c : List AV} {K : Kont} {h : AHeap} (ho : h.Ok) (V : Var h p (.str s :: c)) (k : ∀ h', Ext h h' → h'.Ok → K (.bool (decide (f.name = s))) h' = true) : callN E (n + 1) (.func 54) [.agg (encF f), .ptr p 0 0 0] h K = true := by
  apply d54
  unfold s54
  obtain ⟨h2, b, V2, e, o, _⟩ := box_v (n := 3) (v := .agg (encF f)) ho rfl (by decide) rfl
  refine z_p b ?_
  have V2 : Var h2 h.sz (encF f) := V2
  have A1 : loadA h2 false 1 (.ptr h.sz 0 0 0) = some (.str f.name) := V2.get rfl
  have A2 : loadA h2 false 1 (.ptr p 0 0 0) = some (.str s) := (V.ext e).get rfl
  refine z_fadr ?_; refine z_of A1 ?_; refine z_fadr ?_; refine z_of A2 ?_; refine z_seq ?_
  exact k h2 e o
theorem r53 {n : Nat} {v : AV} {fs : List Fld} {p : Nat} {s : Str} {c : List AV} {K : Kont} {h0 : AHeap} (V : View h0 3 v (fs.map encF)) (P : Var h0 p (.str s :: c)) (hl : fs.length < lim)
    (k : ∀ h', Ext h0 h' → h'.Ok → K (.int .i64 (fint (idx s (fnames fs)))) h' = true) : ∀ (m i : Nat) (h : AHeap), Ext h0 h → h.Ok → i ≤ fs.length → fs.length - i < m → idx s (fnames fs) = off i (idx s (fnames (fs.drop i))) →
    l53_6 (callN E (n + 1)) (n + 1) m v (.fn (.func 54) [] [.ptr p 0 0 0]) (.int .i64 (fs.length : Int)) (.int .i64 (i : Int)) h K = true := by
  intro m
  induction m with
  | zero => intro i h _ _ _ hm; omega
  | succ m ih =>
    intro i h e ho hi hm hx
    unfold l53_6 b53_6
    refine z_lss ?_
    by_cases hlt : i < fs.length
    · refine z_ct (decide_eq_true (by omega)) ?_
      have hd : fs.drop i = fs[i] :: fs.drop (i + 1) := List.drop_eq_getElem_cons hlt
      have he : (fs.map encF)[i]? = some (encF fs[i]) := by simp [hlt]
      obtain ⟨id, g, j, p1, p2⟩ := (V.ext e).at he
      have A : loadA h true 3 (.ptr id g j 0) = some (.agg (encF fs[i])) := by rw [p2]; rfl
      refine z_of (p1 .i64) ?_; refine z_of A ?_; refine z_cv ?_
      refine c54 ho (P.ext e) fun h' e' o' => ?_
      rw [hd] at hx
      simp only [fnames, List.map_cons, idx] at hx
      by_cases hs : fs[i].name = s
      · refine z_ct (by simpa using hs) ?_
        have := k h' (e.trans e') o'
        simp only [fnames] at this
        rw [hx] at this
        simpa [hs, off, fint] using this
      · refine z_cf (by simpa using hs) ?_
        refine z_of (inc64 (i := i) (by omega)) ?_
        refine ih (i + 1) h' (e.trans e') o' (by omega) (by omega) ?_
        rw [if_neg hs] at hx
        simp only [fnames]
        rw [hx]
        cases idx s (List.map Fld.name (List.drop (i + 1) fs)) with
        | none => rfl
        | some x => simp [off]; omega
    · have : fs.drop i = [] := List.drop_of_length_le (by omega)
      rw [this] at hx
      refine z_cf (decide_eq_false (by omega)) ?_
      have := k h e ho
      rw [hx] at this
      exact this
theorem c53 {n : Nat} {v : AV} {fs : List Fld} {p : Nat} {s : Str} {c : List AV} {K : Kont} {h : AHeap} (ho : h.Ok) (V : View h 3 v (fs.map encF)) (P : Var h p (.str s :: c)) (hl : fs.length < lim) (hn : fs.length < n)
    (k : ∀ h', Ext h h' → h'.Ok → K (.int .i64 (fint (idx s (fnames fs)))) h' = true) : callN E (n + 2) (.func 53) [v, .fn (.func 54) [] [.ptr p 0 0 0]] h K = true := by
  apply d53
  unfold s53
  refine z_of V.len ?_
  simp only [List.length_map]
  exact r53 V P hl k (n + 1) 0 h (Ext.refl h) ho (by omega) (by omega) (by rw [off0]; rfl)
def ofT (T : SD) (x : Int) : Option Str := (lkG T.fs x).map FD.cls
theorem c56 {B : Nat} {τ : Nat → Tag} {o n : Nat} {h0 h : AHeap} {T : SD} {x : Int} {K : Kont} (O : SO B τ o h0 h T) (kk : K (.tup [.str ((ofT T x).getD []), .bool (ofT T x).isSome]) h = true) : callN E (n + 1) (.func 56) [.ptr T.p 0 0 0, .int .i64 x] h K = true := by
  apply d56
  unfold s56
  have L := O.lkf x
  unfold ofT at kk
  cases hx : lkG T.fs x with
  | none =>
    rw [hx] at L kk
    have L : lookA h (.leaf .int) true .nilPtr (.map T.fm) (.int .i64 x) = some (.tup [.nilPtr, .bool false]) := L
    refine z_nil ?_; refine z_fadr ?_; refine z_of O.l4 ?_; refine z_of L ?_; refine z_ext0 ?_; refine z_ext1 ?_; refine z_notF ?_; refine z_cT ?_
    exact kk
  | some f =>
    rw [hx] at L kk
    have F := O.f x f (lkG_mem hx)
    have L : lookA h (.leaf .int) true .nilPtr (.map T.fm) (.int .i64 x) = some (.tup [.ptr f.id 0 0 0, .bool true]) := L
    refine z_nil ?_; refine z_fadr ?_; refine z_of O.l4 ?_; refine z_of L ?_; refine z_ext0 ?_; refine z_ext1 ?_; refine z_notT ?_; refine z_cF ?_; refine z_nil ?_; refine z_fadr ?_; refine z_of F.l1 ?_
    exact kk
end Go.Proofs.Ythifmankpcadjaa
namespace Go.Proofs.Ythifmankpcadjaa
open Go.Ab
set_option linter.unusedSimpArgs false
set_option linter.unusedVariables false
def RG (h : AHeap) (a : List AV) (p : Str × Val) : Prop := ∃ c, a = .str p.1 :: c ∧ RV h c p.2
def GV (h : AHeap) (v : AV) (l : List (Str × Val)) : Prop := ∃ es, View h 6 v es ∧ All2 (RG h) es l
def Sq (Q : Nat → Prop) (h : AHeap) (v : AV) (l : List (Str × Val)) : Prop := ∀ h', Lt Q h h' → GV h' v l
def giv (cs : List Cls) (fs : List Fld) (of : Int → Option Str) : List (Str × Val) → Nat → List Val → Option (List Val)
  | [], _, vs => some vs
  | p :: t, m, vs => match idx p.1 (fnames fs) with
    | none => none
    | some i => match fs[i]? with
      | none => none
      | some f => if (m.testBit i || !fitV cs f p.2 of) = true then none else giv cs fs of t (m ||| 2 ^ i) (vs.set i p.2)
def given (cs : List Cls) (name : Str) (of : Int → Option Str) (gs : List (Str × Val)) (vs : List Val) : Option (List Val) :=
  if (fieldsOf cs name).length < gs.length then none else giv cs (fieldsOf cs name) of gs 0 vs
theorem all2_set {α β : Type} {R : α → β → Prop} {a : α} {b : β} (r : R a b) : ∀ {l : List α} {m : List β} (i : Nat), All2 R l m → All2 R (l.set i a) (m.set i b)
  | [], [], i, h => by simpa using h
  | _ :: _, [], i, h => by cases h
  | [], _ :: _, i, h => by cases h
  | x :: l, y :: m, 0, .cons h t => .cons r t
  | x :: l, y :: m, i + 1, .cons h t => .cons h (all2_set r i t)
section
variable {B : Nat} {τ : Nat → Tag} {o : Nat} {h0 h : AHeap} {T : SD} {K : Kont} {n : Nat} {Q : Nat → Prop} {x3 sv : AV} {cs : List Cls} {name : Str} {vals : List Val} {gs : List (Str × Val)}
theorem c28 (O : SO B τ o h0 h T) (TR : TableRep h0 T.tb cs) (A : Asc cs) (hcs : cs.length ≤ 64) {ci : Nat} (hc : idx name (names cs) = some ci) (hfs : (fieldsOf cs name).length ≤ 62)
    (S : Sq Q h sv gs) (hgB : ∀ p ∈ gs, szV p.2 ≤ B) (hvl : vals.length = (fieldsOf cs name).length)
    (W : fieldsOf cs name ≠ [] → (∃ es, Mr h 5 x3 es ∧ All2 (DX (Out τ) h) es vals) ∧ (∀ j, inRow x3 j → τ j = .dat) ∧ ∀ j, inRow x3 j → ¬ Q j)
    (hB : B < 1000000000) (hn : B + 1000000 ≤ n) (hL : n + 100 < lim)
    (kk0 : given cs name (ofT T) gs vals = none → ∀ h', SO B τ o h0 h' T → Fr (fun j => fieldsOf cs name ≠ [] ∧ inRow x3 j) h h' → K (.bool false) h' = true)
    (kk1 : ∀ vals', given cs name (ofT T) gs vals = some vals' → vals'.length = vals.length → ∀ h', SO B τ o h0 h' T → Fr (fun j => fieldsOf cs name ≠ [] ∧ inRow x3 j) h h' →
      (fieldsOf cs name ≠ [] → ∃ es, Mr h' 5 x3 es ∧ All2 (DX (Out τ) h') es vals') → K (.bool true) h' = true) :
    callN E (n + 5) (.func 28) [.ptr T.p 0 0 0, .str name, sv, x3] h K = true := by
  have hlm : lim = 4611686018427387904 := rfl
  apply d28
  unfold s28
  refine z_nil ?_; refine z_fadr ?_; refine z_of O.l0 ?_
  refine u16 (n := n + 2) (TR.ext O.e) A O.ok (by omega) (by omega) (fun e => by rw [hc] at e; cases e) fun i h1 v hi e1 o1 V1 => ?_
  have glen : ∀ h', Lt Q h h' → lenA h' 1 sv = some (.int .i64 (gs.length : Int)) := fun h' L => by
    obtain ⟨es, a, b⟩ := S h' L; rw [a.len, b.length]
  have L1 : Lt Q h h1 := Lt.of_ext e1
  have vlen : lenA h1 1 v = some (.int .i64 ((fieldsOf cs name).length : Int)) := by rw [V1.len, List.length_map]
  refine z_ext0 ?_; refine z_ext1 ?_; refine z_neq ?_
  rw [show (!decide ((0 : Int) = 0)) = false from rfl]
  refine z_gff ?_; refine z_some ?_; refine z_gff ?_; refine z_of (glen h1 L1) ?_; refine z_gff ?_; refine z_some ?_; refine z_gff ?_; refine z_of vlen ?_; refine z_gff ?_; refine z_gtr ?_; refine z_kf ?_
  have O1 := O.ext e1 o1
  by_cases hgl : (fieldsOf cs name).length < gs.length
  · rw [decide_eq_true (by omega)]
    refine z_cT ?_
    exact kk0 (by unfold given; rw [if_pos hgl]) h1 O1 (Fr.of_ext e1)
  · rw [decide_eq_false (by omega)]
    refine z_cF ?_
    unfold p28_12
    refine z_of (glen h1 L1) ?_
    have m0 : (AV.int .u64 0) = AV.int .u64 ((0 : Nat) : Int) := rfl
    rw [m0]
    have g0 : given cs name (ofT T) gs vals = giv cs (fieldsOf cs name) (ofT T) (gs.drop 0) 0 vals := by unfold given; rw [if_neg hgl]; rfl
    rw [g0] at kk0 kk1
    generalize hf : fieldsOf cs name = fs at *
    generalize hX : (fun j => fs ≠ [] ∧ inRow x3 j) = X at *
    suffices H : ∀ m i g mk vs, gs.length - i < m → i ≤ gs.length → SO B τ o h0 g T → Fr X h g → View g 3 v (fs.map encF) → (fs ≠ [] → ∃ es, Mr g 5 x3 es ∧ All2 (DX (Out τ) g) es vs) → vs.length = vals.length → mk < 2 ^ 62 → giv cs fs (ofT T) (gs.drop 0) 0 vals = giv cs fs (ofT T) (gs.drop i) mk vs →
        l28_18 (callN E (n + 4)) (n + 4) m (.ptr T.p 0 0 0) x3 v (.int .u64 (mk : Int)) sv (.int .i64 (gs.length : Int)) (.int .i64 (i : Int)) g K = true from
      H (n + 4) 0 h1 0 vals (by omega) (Nat.zero_le _) O1 (Fr.of_ext e1) V1 (fun q => let ⟨es, a, b⟩ := (W q).1; ⟨es, a.ext e1, b.mono fun _ _ r => r.ext e1⟩) rfl (by decide) rfl
    intro m
    induction m with
    | zero => intro i g mk vs hm; omega
    | succ m ih =>
      intro i g mk vs hm hi O f V W' hvs hmk hg
      have hX' : ∀ j, X j → fs ≠ [] ∧ inRow x3 j := fun j q => by rw [← hX] at q; exact q
      unfold l28_18 b28_18
      refine z_lss ?_
      by_cases hlt : i < gs.length
      · refine z_ct (decide_eq_true (by omega)) ?_
        have hne : fs ≠ [] := fun e => hgl (by rw [e, List.length_nil]; omega)
        obtain ⟨w1, w2, w3⟩ := W hne
        have xt : ∀ j, X j → τ j = .dat := fun j q => w2 j (hX' j q).2
        have hd : gs.drop i = gs[i] :: gs.drop (i + 1) := List.drop_eq_getElem_cons hlt
        have hpm := hgB gs[i] (List.getElem_mem hlt)
        rw [hd] at hg
        generalize hp : gs[i] = p at *
        have Lg : Lt Q h g := Lt.of_fr f fun j q => w3 j (hX' j q).2
        obtain ⟨es6, V6, A6⟩ := S g Lg
        obtain ⟨e6, he6, c, rfl, Rc⟩ := A6.get (b := p) (by rw [List.getElem?_eq_getElem hlt, hp])
        obtain ⟨id, gg, j6, u6⟩ := V6.atE he6
        obtain ⟨p1, p2⟩ := u6 g (Ext.refl g)
        have hc5 := Rc.len5
        obtain ⟨r1, r2, r3, r4⟩ := Rc.agg
        rw [r4] at r3
        have A6g : loadA g true 6 (.ptr id gg j6 0) = some (.agg (.str p.1 :: c)) := by
          rw [p2]; simp only [partA, cond_true, List.length_cons, hc5, Nat.zero_add]
          rw [nble_true.2 (Nat.le_refl 6), cond_true, List.drop_zero, List.take_of_length_le (by simp [hc5])]
        refine z_of (p1 .i64) ?_; refine z_of A6g ?_
        obtain ⟨h2, q2, V2, e2, o2, z2⟩ := alloc_v (z := [AV.str [], AV.int .i64 0, AV.bool false, AV.int .i64 0, AV.str [], AV.nilSlc]) O.ok (by decide) rfl
        refine z_p q2 ?_
        obtain ⟨h3, y1, V3, y3, o3, y5⟩ := V2.wrs o2 (n := 6) (v := .agg (.str p.1 :: c)) (by show (AV.str p.1 :: c).length = 6; simp [hc5]) rfl (by show allLeaf (AV.str p.1 :: c) = true; simp only [allLeaf, r3]; rfl)
        refine z_u y1 ?_
        have V3 : Var h3 g.sz (.str p.1 :: c) := V3
        have e3 : Ext g h3 := y3.ext e2 O.ok (Nat.le_refl _)
        refine z_some ?_
        refine c53 (n := n + 2) o3 (V.ext e3) V3 (by omega) (by omega) fun h4 e4 o4 => ?_
        have e34 := ext_two e3 e4
        have O4 := O.ext e34 o4
        have f4 : Fr X h h4 := f.trans (Fr.of_ext e34)
        cases hix : idx p.1 (fnames fs) with
        | none =>
          have hn1 : fint none = -1 := rfl
          rw [hn1]
          refine z_lss ?_
          rw [show decide ((-1 : Int) < 0) = true from rfl]
          refine z_gtf ?_; refine z_gtf ?_; refine z_gtf ?_; refine z_gtf ?_; refine z_gtf ?_; refine z_kt ?_; refine z_gtf ?_; refine z_gtf ?_; refine z_gtf ?_; refine z_gtf ?_; refine z_gtf ?_; refine z_gtf ?_; refine z_gtf ?_; refine z_gtf ?_; refine z_gtf ?_; refine z_gtf ?_; refine z_gtf ?_; refine z_gtf ?_; refine z_rtf ?_; refine z_gtf ?_; refine z_kt ?_; refine z_cT ?_
          exact kk0 (by rw [hg]; simp only [giv, hix]) h4 O4 f4
        | some j =>
          have hj := (idx_lt hix).1
          have hjf : j < fs.length := by simpa [fnames] using hj
          have hfj : fs[j]? = some fs[j] := List.getElem?_eq_getElem hjf
          have hn1 : fint (some j) = (j : Int) := rfl
          rw [hn1]
          refine z_lss ?_
          rw [decide_eq_false (show ¬ (j : Int) < 0 by omega)]
          have hmk2 : mk < 18446744073709551616 := Nat.lt_trans hmk (by decide)
          obtain ⟨vb, mb1, mb2⟩ := m_bit (i := j) hmk2
          refine z_gff ?_; refine z_some ?_; refine z_gff ?_; refine z_some ?_; refine z_gff ?_; refine z_of (m_shr (m := mk) (i := j) (by omega)) ?_; refine z_gff ?_; refine z_of mb1 ?_; refine z_gff ?_; refine z_of mb2 ?_; refine z_kf ?_
          cases htb : mk.testBit j with
          | true =>
            refine z_gtf ?_; refine z_gtf ?_; refine z_gtf ?_; refine z_gtf ?_; refine z_gtf ?_; refine z_gtf ?_; refine z_gtf ?_; refine z_gtf ?_; refine z_gtf ?_; refine z_gtf ?_; refine z_gtf ?_; refine z_gtf ?_; refine z_rtf ?_; refine z_gtf ?_; refine z_kt ?_; refine z_cT ?_
            exact kk0 (by rw [hg]; simp only [giv, hix, hfj, htb, Bool.true_or, if_true]) h4 O4 f4
          | false =>
            have V4 := V.ext e34
            obtain ⟨id2, g2, j2, s1, s2⟩ := V4.at (show (fs.map encF)[j]? = some (encF fs[j]) by simp [hjf])
            have B1 : loadA h4 true 3 (.ptr id2 g2 j2 0) = some (.agg (encF fs[j])) := by rw [s2]; rfl
            have V34 := V3.ext e4
            have B2 : ∀ h', Ext h4 h' → loadA h' true 5 (.ptr g.sz 0 0 1) = some (.agg c) := fun h' e' => by
              rw [(V34.ext e').load]
              simp only [partA, cond_true, List.length_cons, hc5]
              rw [nble_true.2 (Nat.le_refl 6), cond_true, List.drop_succ_cons, List.drop_zero, List.take_of_length_le (by omega)]
            refine z_gff ?_; refine z_some ?_; refine z_gff ?_; refine z_nil ?_; refine z_gff ?_; refine z_fadr ?_; refine z_gff ?_; refine z_of O4.l0 ?_; refine z_gff ?_; refine z_some ?_; refine z_gff ?_; refine z_some ?_; refine z_gff ?_; refine z_of (s1 .i64) ?_; refine z_gff ?_; refine z_of B1 ?_; refine z_gff ?_; refine z_fadr ?_; refine z_gff ?_; refine z_of (B2 h4 (Ext.refl _)) ?_; refine z_gff ?_; refine z_some ?_; refine z_gff ?_; refine z_some ?_; refine z_rff ?_
            refine u27 (n := n) (TR.ext O4.e) A o4 (RV.ext e34 Rc) (fun x h9 e9 o9 K' k9 => c56 (n := n + 2) (O4.ext e9 o9) (k9 h9 (Ext.refl _) o9)) hcs (by omega) (by omega) (by omega) fun h5 e5 o5 => ?_
            have O5 := O4.ext e5 o5
            have f5 : Fr X h h5 := f4.trans (Fr.of_ext e5)
            have e35 := ext_two e34 e5
            cases hft : fitV cs fs[j] p.2 (ofT T) with
            | false =>
              refine z_gff ?_; refine z_notF ?_; refine z_kf ?_; refine z_cT ?_
              exact kk0 (by rw [hg]; simp only [giv, hix, hfj, htb, hft, Bool.false_or, Bool.not_false, if_true]) h5 O5 f5
            | true =>
              have hp2 : 2 ^ j < 2 ^ 62 := Nat.pow_lt_pow_right (by decide) (by omega)
              refine z_gff ?_; refine z_notT ?_; refine z_kf ?_; refine z_cF ?_; refine z_of (m_shl (i := j) (by omega)) ?_; refine z_of (m_or (a := mk) (b := 2 ^ j) hmk2 (Nat.lt_trans hp2 (by decide))) ?_; refine z_fadr ?_; refine z_of (B2 h5 e5) ?_
              refine c57 (szV p.2) (n + 3) (RV.ext e35 Rc) o5 (Nat.le_refl _) (by omega) (by omega) (by omega) fun h6 a' e6 o6 G => ?_
              have e36 := ext_two e35 e6
              have O6 := O5.ext e6 o6
              obtain ⟨es, M, D⟩ := W' hne
              have M6 := M.ext e36
              have D6 : All2 (DX (Out τ) h6) es vs := D.mono fun _ _ r => r.ext e36
              have hjv : j < vs.length := by omega
              obtain ⟨ej, hej, Rj⟩ := D6.get (List.getElem?_eq_getElem hjv)
              obtain ⟨t1, t2, t3, t4⟩ := G.now.agg
              rw [t4] at t3
              obtain ⟨id3, g3, i1, i2, h7, i3, M7, b7, z7, o7⟩ := M6.set (x := .agg a') hej Rj.now.len5 t2 (by rw [t4]; exact t3)
              rw [t4] at M7
              have f7 : Fr X h6 h7 := Fr.of_but (by rw [← hX]; exact ⟨hne, i2⟩) b7
              have Da : DX (Out τ) h6 a' p.2 := fun h' L => G.rd h' fun q ob l1 l2 gq => L q ob (O5.hi q l1) gq
              have lt6 : Lt (Out τ) h6 h7 := Lt.of_fr f7 fun q x => by show ¬ τ q = .out; rw [xt q x]; exact nofun
              have D7 : All2 (DX (Out τ) h7) (es.set j a') (vs.set j p.2) := (all2_set Da j D6).mono fun _ _ r => r.fr lt6 o6 fun q _ e => e
              have xo : ∀ q, X q → τ q ≠ .out ∧ ∀ t, τ q ≠ .own o t := fun q x => by rw [xt q x]; exact ⟨nofun, nofun⟩
              have O7 := O6.fr f7 (o7 o6) xo (O6.tg f7.sz)
              have V6' := V.ext e36
              have V7 : View h7 3 v (fs.map encF) := by
                rcases V6' with V6' | ⟨id4, g4, s4, cap4, ex4, r4', rfl, k1, k2, k3, k4⟩
                · exact .inl V6'
                · refine f7.view (.inr ⟨id4, g4, s4, cap4, ex4, r4', rfl, k1, k2, k3, k4⟩) fun id5 g5 s5 l5 c5 ex5 q x => ?_
                  cases q
                  have := (hX' _ x).2
                  obtain ⟨id6, cap6, ex6, r6, rfl, u1, u2, u3, u4, u5⟩ := M6
                  rw [← inRow_slc.1 this, u1] at k1
                  cases k1; omega
              refine z_of (i1 .i64) ?_; refine z_u i3 ?_; refine z_of (inc64 (i := i) (by omega)) ?_
              refine ih (i + 1) h7 (mk ||| 2 ^ j) (vs.set j p.2) (by omega) (by omega) O7 ((f5.trans (Fr.of_ext e6)).trans f7) V7 (fun _ => ⟨_, M7, D7⟩) (by rw [List.length_set]; exact hvs) (Nat.or_lt_two_pow hmk hp2) ?_
              rw [hg]
              simp only [giv, hix, hfj, htb, hft, Bool.false_or, Bool.not_true, Bool.false_eq_true, if_false]
      · refine z_cf (decide_eq_false (by omega)) ?_
        have : gs.drop i = [] := List.drop_of_length_le (by omega)
        rw [this] at hg
        exact kk1 vs (by rw [hg]; rfl) hvs g O f W'
end
end Go.Proofs.Ythifmankpcadjaa
namespace Go.Proofs.Ythifmankpcadjaa
open Go.Ab
set_option linter.unusedSimpArgs false
set_option linter.unusedVariables false
def InR (T : SD) (i : IK) (y : Int) : Prop := ∃ r, T.row i = some r ∧ y ∈ r.l
theorem mkmap_v {h : AHeap} (o : h.Ok) {κ : Type} (ek : κ → AV) : ∃ h', mkmapV h = some (.map h.sz, h') ∧ KMap ek h' h.sz ([] : List (κ × AV)) ∧ Ext h h' ∧ h'.Ok ∧ h'.sz = h.sz + 1 := by
  obtain ⟨e, m⟩ := kmap_new (ek := ek) h
  exact ⟨_, e, m, ext_push o _, o.push _, by simp⟩
noncomputable def tagN (τ : Nat → Tag) (o b : Nat) : Nat → Tag := fun j => if j = b then .own o .fm else if j = b + 1 then .own o (.rb .all) else if j = b + 2 then .own o .bm else if j = b + 3 then .own o .sm else if j = b + 4 then .own o .p else τ j
theorem c9 {B : Nat} {τ : Nat → Tag} {o n : Nat} {h0 h : AHeap} {p g i s : Nat} {most : Int} {K : Kont} (ok : h.Ok) (k0 : h0.Ok) (e : Ext h0 h) (t0 : ∀ j, j < h0.sz → τ j = .out) (hi : ∀ j, h.sz ≤ j → τ j = .out)
    (kbad : ¬ (1 ≤ most ∧ most ≤ 65536) → K (.tup [.nilPtr, .int .i64 1]) h = true)
    (kk : 1 ≤ most → most ≤ 65536 → ∀ h' τ' T, SO B τ' o h0 h' T → St o τ τ' h h' → T.tb = .ptr p g i s → T.most = most → T.next = 0 → T.clock = 0 → T.fs = [] → T.all.l = [] → T.by' = [] → T.same = [] → K (.tup [.ptr T.p 0 0 0, .int .i64 0]) h' = true) :
    callN E (n + 2) (.func 9) [.ptr p g i s, .int .i64 most] h K = true := by
  apply d9
  unfold s9
  refine z_eqp ?_; refine z_gff ?_; refine z_some ?_; refine z_gff ?_; refine z_lss ?_; refine z_kf ?_
  by_cases h1 : most < 1
  · rw [decide_eq_true h1]
    refine z_gtf ?_; refine z_gtf ?_; refine z_kt ?_; refine z_cT ?_
    exact kbad (by omega)
  rw [decide_eq_false h1]
  refine z_gff ?_; refine z_some ?_; refine z_gff ?_; refine z_gtr ?_; refine z_kf ?_
  by_cases h2 : most > 65536
  · rw [decide_eq_true (by omega)]
    refine z_cT ?_
    exact kbad (by omega)
  rw [decide_eq_false (by omega)]
  refine z_cF ?_
  obtain ⟨g1, a1, M1, e1, o1, z1⟩ := mkmap_v ok intKey
  refine z_p a1 ?_
  refine c27 o1 fun g2 e2 o2 z2 V2 => ?_
  obtain ⟨g3, a3, M3, e3, o3, z3⟩ := mkmap_v o2 strKey
  refine z_p a3 ?_
  obtain ⟨g4, a4, M4, e4, o4, z4⟩ := mkmap_v o3 sk
  refine z_p a4 ?_
  have hb : buildV [.nilPtr, .int .i64 0, .int .i64 0, .int .i64 0, .nilMap, .nilPtr, .nilMap, .nilMap] [(0, 1, (AV.ptr p g i s)), (1, 1, (AV.int .i64 most)), (4, 1, (AV.map h.sz)), (5, 1, (AV.ptr g1.sz 0 0 0)), (6, 1, (AV.map g2.sz)), (7, 1, (AV.map g3.sz))] = some (.agg [.ptr p g i s, .int .i64 most, .int .i64 0, .int .i64 0, .map h.sz, .ptr g1.sz 0 0 0, .map g2.sz, .map g3.sz]) := rfl
  refine z_of hb ?_
  obtain ⟨g5, b5, V5, e5, o5, z5⟩ := box_v (n := 8) (v := .agg [.ptr p g i s, .int .i64 most, .int .i64 0, .int .i64 0, .map h.sz, .ptr g1.sz 0 0 0, .map g2.sz, .map g3.sz]) o4 rfl (by decide) rfl
  refine z_p b5 ?_
  have V5 : Var g5 g4.sz [.ptr p g i s, .int .i64 most, .int .i64 ((0 : Nat) : Int), .int .i64 ((0 : Nat) : Int), .map h.sz, .ptr g1.sz 0 0 0, .map g2.sz, .map g3.sz] := V5
  have E25 := ext_two (ext_two e3 e4) e5
  have E5 : Ext h g5 := ext_two (ext_two e1 e2) E25
  have s1 : g1.sz = h.sz + 1 := z1
  have s2 : g2.sz = h.sz + 2 := by omega
  have s3 : g3.sz = h.sz + 3 := by omega
  have s4 : g4.sz = h.sz + 4 := by omega
  have s5 : g5.sz = h.sz + 5 := by omega
  have old : ∀ j, j < h.sz → tagN τ o h.sz j = τ j := fun j hj => by
    unfold tagN
    rw [if_neg (by omega), if_neg (by omega), if_neg (by omega), if_neg (by omega), if_neg (by omega)]
  have new : ∀ j, h.sz + 5 ≤ j → tagN τ o h.sz j = τ j := fun j hj => by
    unfold tagN
    rw [if_neg (by omega), if_neg (by omega), if_neg (by omega), if_neg (by omega), if_neg (by omega)]
  have q0 : tagN τ o h.sz h.sz = .own o .fm := by unfold tagN; rw [if_pos rfl]
  have q1 : tagN τ o h.sz g1.sz = .own o (.rb .all) := by unfold tagN; rw [if_neg (by omega), if_pos (by omega)]
  have q2 : tagN τ o h.sz g2.sz = .own o .bm := by unfold tagN; rw [if_neg (by omega), if_neg (by omega), if_pos (by omega)]
  have q3 : tagN τ o h.sz g3.sz = .own o .sm := by unfold tagN; rw [if_neg (by omega), if_neg (by omega), if_neg (by omega), if_pos (by omega)]
  have q4 : tagN τ o h.sz g4.sz = .own o .p := by unfold tagN; rw [if_neg (by omega), if_neg (by omega), if_neg (by omega), if_neg (by omega), if_pos (by omega)]
  refine kk (by omega) (by omega) g5 (tagN τ o h.sz) ⟨g4.sz, h.sz, g2.sz, g3.sz, .ptr p g i s, most, 0, 0, [], ⟨g1.sz, .nilSlc, []⟩, [], []⟩
    ⟨o5, k0, ext_two e E5, fun j hj => ?_, fun j hj => ?_, q4, q0, q2, q3, V5, (Fr.of_ext (X := fun _ => False) (ext_two e2 E25)).kmap M1 nofun, (Fr.of_ext (X := fun _ => False) (ext_two e4 e5)).kmap M3 nofun, (Fr.of_ext (X := fun _ => False) e5).kmap M4 nofun, nofun, fun i r hr => ?_⟩
    ⟨o5, Fr.of_ext E5, old, fun j hj => ?_⟩ rfl rfl rfl rfl rfl rfl rfl rfl
  · rw [old j (by have := e.1; omega)]; exact t0 j hj
  · rw [new j (by omega)]; exact hi j (by omega)
  · cases i with
    | all =>
      simp only [SD.row, Option.some.injEq] at hr
      subst hr
      exact ⟨q1, fun j q => absurd q inRow_nil, V2.ext E25, Buf.nil _ _, .nil, nofun, by simp, fun j q => absurd q inRow_nil⟩
    | c s => cases hr
    | k s => cases hr
  · by_cases w : h.sz + 5 ≤ j
    · left; rw [new j w]; exact hi j hj
    · right
      refine ⟨?_, by omega⟩
      have : j = h.sz ∨ j = g1.sz ∨ j = g2.sz ∨ j = g3.sz ∨ j = g4.sz := by omega
      rcases this with rfl | rfl | rfl | rfl | rfl
      · exact ⟨_, q0⟩
      · exact ⟨_, q1⟩
      · exact ⟨_, q2⟩
      · exact ⟨_, q3⟩
      · exact ⟨_, q4⟩
end Go.Proofs.Ythifmankpcadjaa
namespace Go.Proofs.Ythifmankpcadjaa
open Go.Ab
set_option linter.unusedSimpArgs false
set_option linter.unusedVariables false
section
variable {B : Nat} {τ τ' : Nat → Tag} {o : Nat} {h0 h h' : AHeap} {T : SD} {i : IK} {r : RD} {K : Kont} {n : Nat} {k hd : Int} {x : FD}
theorem SO.aside {S : PT → Prop} (O : SO B τ o h0 h T) (f : Fr (XS τ o S) h h') (ok : h'.Ok) (n1 : ¬ S .p) (n2 : ¬ S .fm) (n3 : ¬ S .bm) (n4 : ¬ S .sm) (n5 : ∀ i, ¬ S (.rb i) ∧ ¬ S (.rl i)) (n6 : ∀ k x, (k, x) ∈ T.fs → ¬ S (.f k) ∧ ¬ S (.st k)) : SO B τ o h0 h' T ∧ St o τ τ h h' :=
  ⟨O.step f ok (O.tg f.sz) rfl rfl rfl rfl (f.var O.var (xs_no O.tp n1)) (f.kmap O.fs (xs_no O.tf n2)) (f.kmap O.by' (xs_no O.tb n3)) (f.kmap O.same (xs_no O.ts n4)) (fun k x hk => O.f' f (O.tg f.sz) (n6 k x hk).1 (n6 k x hk).2 hk) fun i r hr => O.r' f (O.tg f.sz) (n5 i).1 (n5 i).2 hr,
   ok, f.mono fun j ⟨t, _, e⟩ => ⟨t, e⟩, fun _ _ => rfl, fun j hj => .inl (O.hi j hj)⟩
theorem SO.wf (O : SO B τ o h0 h T) (hn : lkG T.fs hd = none) (f : Fr (fun j => τ j = .own o (.f hd) ∨ τ j = .own o (.st hd)) h h') (ok : h'.Ok) : SO B τ o h0 h' T ∧ St o τ τ h h' := by
  refine O.aside (S := fun t => t = .f hd ∨ t = .st hd) (f.mono fun j e => ?_) ok (by simp) (by simp) (by simp) (by simp) (by simp) fun k x hk => ?_
  · rcases e with e | e
    · exact ⟨_, .inl rfl, e⟩
    · exact ⟨_, .inr rfl, e⟩
  · have : k ≠ hd := fun e => by rw [lkG_none] at hn; exact hn (by rw [← e]; exact List.mem_map.2 ⟨_, hk, rfl⟩)
    simp [this]
theorem SO.putS (O : SO B τ o h0 h T) {nx ck : Nat} (f : But T.p h h') (ok : h'.Ok) (V : Var h' T.p [T.tb, .int .i64 T.most, .int .i64 (nx : Int), .int .i64 (ck : Int), .map T.fm, .ptr T.all.id 0 0 0, .map T.bm, .map T.sm]) : SO B τ o h0 h' { T with next := nx, clock := ck } ∧ St o τ τ h h' :=
  ⟨O.put (Fr.of_but rfl f) ok V, ok, Fr.of_but ⟨_, O.tp⟩ f, fun _ _ => rfl, fun j hj => .inl (O.hi j hj)⟩
theorem SO.addF (O : SO B τ o h0 h T) (f : But T.fm h h') (ok : h'.Ok) (M : KMap intKey h' T.fm (up (mp fp T.fs) hd (fp x))) (F : FO B τ o h hd x) : SO B τ o h0 h' { T with fs := upG T.fs hd x } ∧ St o τ τ h h' := by
  have f' : Fr (XS τ o fun t => t = .fm) h h' := Fr.of_but ⟨_, rfl, O.tf⟩ f
  refine ⟨O.step (T' := { T with fs := upG T.fs hd x }) f' ok (O.tg f.sz) rfl rfl rfl rfl (f'.var O.var (xs_no O.tp nofun)) (by rw [up_G, ← upG_mp] at M; exact M) (f'.kmap O.by' (xs_no O.tb nofun)) (f'.kmap O.same (xs_no O.ts nofun)) (fun k y hk => ?_) fun i r hr => O.r' f' (O.tg f.sz) nofun nofun hr,
    ok, Fr.of_but ⟨_, O.tf⟩ f, fun _ _ => rfl, fun j hj => .inl (O.hi j hj)⟩
  rcases upG_mem hk with e | e
  · cases e
    exact F.fr O.ok f' (fun j q => ⟨xs_out q, xs_ne nofun q, xs_ne nofun q⟩) fun _ _ => rfl
  · exact O.f' f' (O.tg f.sz) nofun nofun e
theorem rs_in {T' : SD} {P : Int → Prop} (R : Rs T T' i P) (j : IK) (y : Int) : InR T' j y ↔ if j = i then P y else InR T j y := by
  by_cases e : j = i
  · rw [if_pos e, e]; exact R.at' y
  · rw [if_neg e]; unfold InR; rw [R.ne j e]
theorem srt_len : ∀ {l : List Int} {a N : Int}, Srt l → (∀ y ∈ l, a < y ∧ y ≤ N) → a ≤ N → (l.length : Int) ≤ N - a
  | [], a, N, _, _, h => by simp; omega
  | y :: l, a, N, s, b, h => by
    have hy := b y List.mem_cons_self
    have := srt_len (l := l) (a := y) (N := N) (List.pairwise_cons.1 s).2 (fun z hz => ⟨(List.pairwise_cons.1 s).1 z hz, (b z (List.mem_cons_of_mem _ hz)).2⟩) hy.2
    rw [List.length_cons]; omega
abbrev zV : Val := .mk 0 false 0 [] []
theorem dx_zero (Q : Nat → Prop) (h : AHeap) : DX Q h z5 zV := fun h' _ => RV.of ⟨[], View.nil _ _, .nil⟩ ⟨⟨by decide, by decide⟩, ⟨by decide, by decide⟩, nofun⟩
theorem all2_rep {α β : Type} {R : α → β → Prop} {a : α} {b : β} (r : R a b) : ∀ n, All2 R (List.replicate n a) (List.replicate n b)
  | 0 => .nil
  | n + 1 => .cons r (all2_rep r n)
end
end Go.Proofs.Ythifmankpcadjaa
namespace Go.Proofs.Ythifmankpcadjaa
open Go.Ab
set_option linter.unusedSimpArgs false
set_option linter.unusedVariables false
def Hit : IK → FD → Prop
  | .all, _ => True
  | .c s, x => x.cls = s
  | .k q, x => keyOf x = q
structure SI (cs : List Cls) (b : Nat) (T : SD) : Prop where
  ks : (T.fs.map fun p => p.1).Pairwise (· < ·)
  kb : ∀ k x, (k, x) ∈ T.fs → 1 ≤ k ∧ k ≤ T.next
  rw : ∀ i y, InR T i y ↔ ∃ x, lkG T.fs y = some x ∧ Hit i x
  fc : ∀ k x, (k, x) ∈ T.fs → (idx x.cls (names cs)).isSome ∧ x.vs.length = (fieldsOf cs x.cls).length ∧ x.stamps.length = x.vs.length ∧ ∀ v ∈ x.vs, szV v ≤ b
theorem sz_all {b : Nat} : ∀ {l : List Val}, (∀ v ∈ l, szV v ≤ b) → szVs l ≤ l.length * b
  | [], _ => by simp [szVs]
  | v :: l, h => by
    have h1 := h v List.mem_cons_self
    have h2 := sz_all (l := l) fun w hw => h w (List.mem_cons_of_mem _ hw)
    simp only [szVs, List.length_cons]
    rw [Nat.succ_mul]; omega
theorem giv_all {P : Val → Prop} {cs : List Cls} {fs : List Fld} {of : Int → Option Str} : ∀ {gs : List (Str × Val)} {m : Nat} {vs vs' : List Val}, (∀ v ∈ vs, P v) → (∀ p ∈ gs, P p.2) → giv cs fs of gs m vs = some vs' → ∀ v ∈ vs', P v
  | [], m, vs, vs', h1, h2, h => by simp only [giv, Option.some.injEq] at h; subst h; exact h1
  | p :: t, m, vs, vs', h1, h2, h => by
    simp only [giv] at h
    split at h
    · cases h
    · split at h
      · cases h
      · split at h
        · cases h
        · refine giv_all (fun v hv => ?_) (fun q hq => h2 q (List.mem_cons_of_mem _ hq)) h
          rcases List.mem_or_eq_of_mem_set hv with e | e
          · exact h1 v e
          · rw [e]; exact h2 p List.mem_cons_self
theorem given_all {P : Val → Prop} {cs : List Cls} {nm : Str} {of : Int → Option Str} {gs : List (Str × Val)} {vs vs' : List Val} (h1 : ∀ v ∈ vs, P v) (h2 : ∀ p ∈ gs, P p.2) (h : given cs nm of gs vs = some vs') : ∀ v ∈ vs', P v := by
  unfold given at h
  split at h
  · cases h
  · exact giv_all h1 h2 h
structure InsT (T T' : SD) (name : Str) (vs : List Val) (st : Bool) : Prop where
  fs : ∃ x, T'.fs = T.fs ++ [(((T.next + 1 : Nat) : Int), x)] ∧ x.cls = name ∧ x.vs = vs ∧ x.stated = st ∧ x.born = T.clock + 1 ∧ x.stamps = List.replicate vs.length ((T.clock + 1 : Nat) : Int)
  sc : T'.p = T.p ∧ T'.tb = T.tb ∧ T'.most = T.most ∧ T'.next = T.next + 1 ∧ T'.clock = T.clock + 1
  rw : ∀ i y, InR T' i y ↔ InR T i y ∨ (y = ((T.next + 1 : Nat) : Int) ∧ (i = .all ∨ i = .c name ∨ i = .k (name, spV vs)))
section
variable {B b : Nat} {τ : Nat → Tag} {o : Nat} {h0 h : AHeap} {T : SD} {K : Kont} {n : Nat} {Q : Nat → Prop} {sv : AV} {cs : List Cls} {name : Str} {gs : List (Str × Val)} {st : Bool}
theorem SI.len (I : SI cs b T) (O : SO B τ o h0 h T) {i : IK} {r : RD} (hr : T.row i = some r) : r.l.length ≤ T.next := by
  have := srt_len (a := 0) (N := T.next) (O.r i r hr).rn.srt (fun y hy => by
    obtain ⟨x, e, _⟩ := (I.rw i y).1 ⟨r, hr, hy⟩
    have := I.kb y x (lkG_mem e); omega) (by omega)
  omega
theorem SI.fresh (I : SI cs b T) : lkG T.fs ((T.next + 1 : Nat) : Int) = none := by
  cases e : lkG T.fs ((T.next + 1 : Nat) : Int) with
  | none => rfl
  | some x => have := I.kb _ x (lkG_mem e); omega
theorem SI.nin (I : SI cs b T) {i : IK} {r : RD} (hr : T.row i = some r) : ((T.next + 1 : Nat) : Int) ∉ r.l := fun q => by
  obtain ⟨x, e, _⟩ := (I.rw i _).1 ⟨r, hr, q⟩
  rw [I.fresh] at e; cases e
theorem ints_rep (i L : Nat) (c : Int) (h : i < L) : (ints (List.replicate i c ++ List.replicate (L - i) 0)).set i [AV.int .i64 c] = ints (List.replicate (i + 1) c ++ List.replicate (L - (i + 1)) 0) := by
  have e1 : L - i = (L - (i + 1)) + 1 := by omega
  rw [e1, List.replicate_succ, List.replicate_succ', ints_app, ints_app, ints_app]
  have hl : (ints (List.replicate i c)).length = i := by rw [ints_len, List.length_replicate]
  rw [List.set_append_right _ _ (by omega), hl, Nat.sub_self, List.append_assoc]
  rfl
theorem ins_rows {τ0 : Nat → Tag} {h00 : AHeap} {T0 : SD} {x : FD} (I : SI cs b T0) (O : SO B τ o h0 h T) (s0 : St o τ0 τ h00 h) (O0 : SO B τ0 o h0 h00 T0)
    (eq : T = { T0 with fs := T0.fs ++ [(((T0.next + 1 : Nat) : Int), x)], next := T0.next + 1, clock := T0.clock + 1 })
    (hN : T0.next < 500000) (hB : B < 1000000000) (hn : B + 3000000 ≤ n) (hL : n + 100 < lim)
    (kk : ∀ h' τ' T', SO B τ' o h0 h' T' → St o τ0 τ' h00 h' → T' = { T with all := T'.all, by' := T'.by', same := T'.same } → (∀ i y, InR T' i y ↔ InR T i y ∨ (y = ((T0.next + 1 : Nat) : Int) ∧ (i = .all ∨ i = .c x.cls ∨ i = .k (keyOf x)))) → K (.tup [.int .i64 ((T0.next + 1 : Nat) : Int), .int .i64 0]) h' = true) :
    (callN E (n + 7) (.func 29) [.ptr T.all.id 0 0 0, .int .i64 ((T0.next + 1 : Nat) : Int)] h fun v80 h => optB (nilckA (.ptr T.p 0 0 0)) fun v81 => optB (fadrA 6 v81) fun v82 => optB (loadA h false 1 v82) fun v83 => optB (lookA h (.leaf .str) false .nilPtr v83 (.str x.cls)) fun v84 => optB (eqV h false .ptr v84 .nilPtr) fun v85 => condB v85 (optB (nilckA (.ptr T.p 0 0 0)) fun v86 => optB (fadrA 6 v86) fun v87 => optB (loadA h false 1 v87) fun v88 => callN E (n + 7) (.func 27) [] h fun v89 h => sameB (loadA h false 1 v87) v88 <| optP (unit (mupdA h (.leaf .str) v88 (.str x.cls) v89)) fun _ h => p10_62 (callN E (n + 7)) (n + 7) (.ptr T.p 0 0 0) (.str x.cls) (.ptr x.id 0 0 0) h K) (p10_62 (callN E (n + 7)) (n + 7) (.ptr T.p 0 0 0) (.str x.cls) (.ptr x.id 0 0 0) h K)) = true := by
  have hsm : small ((T0.next + 1 : Nat) : Int) := ⟨by omega, by omega⟩
  generalize hhd : ((T0.next + 1 : Nat) : Int) = hd at *
  have hr : ∀ i, T.row i = T0.row i := fun i => by rw [eq]; cases i <;> rfl
  have hlen : ∀ i r, T0.row i = some r → r.l.length ≤ 500000 := fun i r e => by have := I.len O0 e; omega
  have hnin : ∀ i r, T0.row i = some r → hd ∉ r.l := fun i r e => by rw [← hhd]; exact I.nin e
  have hx : (hd, x) ∈ T.fs := by rw [eq]; simp
  refine put_row (n := n + 4) (i := .all) O rfl hsm (by have := hnin .all T.all (by rw [← hr]; rfl); exact this) (by have := hlen .all T.all (by rw [← hr]; rfl); omega) (by have := hlen .all T.all (by rw [← hr]; rfl); omega) fun h1 τ1 r1 O1 s1 i1 m1 => ?_
  have S1 := rs_set (T := T) (i := .all) (r' := r1) m1
  generalize hT1 : T.setRow .all r1 = T1 at *
  have t1 : T1.p = T.p ∧ T1.bm = T.bm ∧ T1.fs = T.fs := by rw [S1.eq]; exact ⟨rfl, rfl, rfl⟩
  have R1 : ∀ i, i ≠ .all → T1.row i = T0.row i := fun i e => by rw [S1.ne i e, hr]
  have L6 : ∀ {h' τ' T'}, SO B τ' o h0 h' T' → T'.p = T.p → T'.bm = T.bm → loadA h' false 1 (.ptr T.p 0 0 6) = some (.map T.bm) := fun O e1 e2 => by rw [← e1, ← e2]; exact O.l6
  have fin : ∀ h2 τ2 T2 r2, SO B τ2 o h0 h2 T2 → St o τ0 τ2 h00 h2 → T2 = { T with all := T2.all, by' := T2.by', same := T2.same } → T2.row (.c x.cls) = some r2 → (∀ y, y ∈ r2.l ↔ InR T0 (.c x.cls) y) → (∀ i, i ≠ .all → i ≠ .c x.cls → T2.row i = T0.row i) → (∀ y, InR T2 .all y ↔ y = hd ∨ InR T0 .all y) →
      p10_62 (callN E (n + 7)) (n + 7) (.ptr T.p 0 0 0) (.str x.cls) (.ptr x.id 0 0 0) h2 K = true := by
    intro h2 τ2 T2 r2 O2 s2 e2 hr2 m2 n2 a2
    unfold p10_62
    have p2 : T2.p = T.p := by rw [e2]
    have b2 : T2.bm = T.bm := by rw [e2]
    have hx2 : (hd, x) ∈ T2.fs := by rw [e2]; exact hx
    have F2 := O2.f hd x hx2
    have lk2 : lookA h2 (.leaf .str) false .nilPtr (.map T.bm) (.str x.cls) = some (.ptr r2.id 0 0 0) := by rw [← b2]; exact O2.lkb hr2
    have nin2 : hd ∉ r2.l := fun q => by
      obtain ⟨r, e, q⟩ := (m2 hd).1 q
      exact hnin _ r e q
    have len2 : r2.l.length ≤ 500000 := by
      have := srt_len (a := 0) (N := T0.next) (O2.r _ r2 hr2).rn.srt (fun y hy => by
        obtain ⟨z, e, _⟩ := (I.rw _ y).1 ((m2 y).1 hy)
        have := I.kb y z (lkG_mem e); omega) (by omega)
      omega
    refine z_nil ?_; refine z_fadr ?_; refine z_of (L6 O2 p2 b2) ?_; refine z_of lk2 ?_; refine z_nil ?_; refine z_fadr ?_; refine z_of F2.l0 ?_
    refine put_row (n := n + 4) O2 hr2 hsm nin2 (by omega) (by omega) fun h3 τ3 r3 O3 s3 i3 m3 => ?_
    have S3 := rs_set (T := T2) (i := .c x.cls) (r' := r3) m3
    generalize hT3 : T2.setRow (.c x.cls) r3 = T3 at *
    have p3 : T3.p = T.p := by rw [S3.eq]; exact p2
    have f3 : T3.fs = T.fs := by rw [S3.eq, e2]
    have hx3 : (hd, x) ∈ T3.fs := by rw [f3]; exact hx
    have hk3 : T3.row (.k (keyOf x)) = T0.row (.k (keyOf x)) := by rw [S3.ne (.k (keyOf x)) nofun, n2 (.k (keyOf x)) nofun nofun]
    rw [← p3]
    refine c30 (n := n + 2) O3 hx3 hsm (fun r e => hnin _ r (by rw [← hk3]; exact e)) (fun r e => by have := hlen _ r (by rw [← hk3]; exact e); omega) (by omega) (by omega) (by omega) fun h4 τ4 T4 O4 s4 S4 => ?_
    have F4 := O4.f hd x (by rw [S4.eq]; exact hx3)
    refine z_nil ?_; refine z_fadr ?_; refine z_of F4.l0 ?_
    refine kk h4 τ4 T4 O4 ((s2.trans O0.ok s3).trans O0.ok s4) (by rw [S4.eq, S3.eq, e2]) fun i y => ?_
    rw [rs_in S4]
    by_cases e1 : i = .k (keyOf x)
    · subst e1
      rw [if_pos rfl]
      have : InR T (.k (keyOf x)) y ↔ ∃ r, T3.row (.k (keyOf x)) = some r ∧ y ∈ r.l := by unfold InR; rw [hr, hk3]
      rw [this]
      simp only [reduceCtorEq, false_or, and_true]
      exact Or.comm
    · rw [if_neg e1, rs_in S3]
      by_cases e2 : i = .c x.cls
      · subst e2
        rw [if_pos rfl, m2]
        have : InR T (.c x.cls) y ↔ InR T0 (.c x.cls) y := by unfold InR; rw [hr]
        rw [this]
        simp only [reduceCtorEq, false_or, or_false, and_true]
        exact Or.comm
      · rw [if_neg e2]
        by_cases e3 : i = .all
        · subst e3
          have : InR T .all y ↔ InR T0 .all y := by unfold InR; rw [hr]
          rw [a2, this]
          simp only [true_or, and_true]
          exact Or.comm
        · have h1 : InR T2 i y ↔ InR T0 i y := by unfold InR; rw [n2 i e3 e2]
          have h2 : InR T i y ↔ InR T0 i y := by unfold InR; rw [hr]
          rw [h1, h2]
          simp only [e1, e2, e3, or_self, and_false, or_false]
  have s01 := s0.trans O0.ok s1
  have a1 : ∀ y, InR T1 .all y ↔ y = hd ∨ InR T0 .all y := fun y => by
    rw [rs_in S1, if_pos rfl]
    have : InR T0 .all y ↔ y ∈ T.all.l := by
      unfold InR; rw [← hr]
      constructor
      · rintro ⟨r, e, q⟩; cases e; exact q
      · exact fun q => ⟨_, rfl, q⟩
    rw [this]
  refine z_nil ?_; refine z_fadr ?_; refine z_of (L6 O1 t1.1 t1.2.1) ?_
  have rc := R1 (.c x.cls) nofun
  cases hc : T1.row (.c x.cls) with
  | some r =>
    have lk1 : lookA h1 (.leaf .str) false .nilPtr (.map T.bm) (.str x.cls) = some (.ptr r.id 0 0 0) := by rw [← t1.2.1]; exact O1.lkb hc
    refine z_of lk1 ?_; refine z_eqp ?_; refine z_cF ?_
    refine fin h1 τ1 T1 r O1 s01 S1.eq hc (fun y => ?_) (fun i e1 _ => R1 i e1) a1
    unfold InR
    rw [← rc, hc]
    constructor
    · exact fun q => ⟨r, rfl, q⟩
    · rintro ⟨r', e, q⟩; cases e; exact q
  | none =>
    have lk1 : lookA h1 (.leaf .str) false .nilPtr (.map T.bm) (.str x.cls) = some .nilPtr := by rw [← t1.2.1]; exact O1.lkb0 hc
    refine z_of lk1 ?_; refine z_eqn ?_; refine z_cT ?_; refine z_nil ?_; refine z_fadr ?_; refine z_of (L6 O1 t1.1 t1.2.1) ?_
    refine c27 O1.ok fun h2 e2 o2 z2 V2 => ?_
    have O2 := O1.ext e2 o2
    refine z_same (L6 O2 t1.1 t1.2.1) (same_map _) ?_
    obtain ⟨h3, u1, u2, u3, u4, u5⟩ := O2.by'.upd strKeys x.cls (.ptr h1.sz 0 0 0)
    rw [t1.2.1] at u1
    refine z_u u1 ?_
    have lbm := O1.by'.lt O1.ok
    obtain ⟨τ3, O3, s3⟩ := O1.newBy (s := x.cls) hc ((Fr.of_ext e2).trans (Fr.of_but rfl u2)) (u4 o2) (u2.var V2 (by omega)) u5
    have S3 := rs_set (T := T1) (i := .c x.cls) (r' := ⟨h1.sz, .nilSlc, []⟩) (P := fun _ => False) fun y => by simp
    refine fin h3 τ3 _ ⟨h1.sz, .nilSlc, []⟩ O3 (s01.trans O0.ok s3) (by rw [S3.eq, S1.eq]) (by rw [row_set, if_pos rfl]) (fun y => ?_) (fun i e1 e2 => by rw [S3.ne i e2, R1 i e1]) fun y => by rw [rs_in S3, if_neg nofun]; exact a1 y
    unfold InR
    rw [← rc, hc]
    simp
end
end Go.Proofs.Ythifmankpcadjaa
namespace Go.Proofs.Ythifmankpcadjaa
open Go.Ab
set_option linter.unusedSimpArgs false
set_option linter.unusedVariables false
def zeros (fs : List Fld) : List Val := List.replicate fs.length zV
section
variable {B b : Nat} {τ : Nat → Tag} {o : Nat} {h0 h : AHeap} {T : SD} {K : Kont} {n : Nat} {Q : Nat → Prop} {sv : AV} {cs : List Cls} {name : Str} {gs : List (Str × Val)} {st : Bool}
theorem c10 (O : SO B τ o h0 h T) (I : SI cs b T) (TR : TableRep h0 T.tb cs) (A : Asc cs) (hcs : cs.length ≤ 64) (hfs : ∀ s, (fieldsOf cs s).length ≤ 62)
    (S : Sq Q h sv gs) (hQ : ∀ j, Q j → j < h.sz) (hgB : ∀ p ∈ gs, szV p.2 ≤ b) (hb1 : 1 ≤ b) (hb : 62 * b ≤ B)
    (hN : T.next < 500000) (hC : T.clock < 500000) (hB : B < 1000000000) (hn : B + 3000000 ≤ n) (hL : n + 200 < lim)
    (k1 : idx name (names cs) = none → ∀ h', Ext h h' → h'.Ok → K (.tup [.int .i64 0, .int .i64 10]) h' = true)
    (k2 : (idx name (names cs)).isSome → given cs name (ofT T) gs (zeros (fieldsOf cs name)) = none → ∀ h', Ext h h' → h'.Ok → K (.tup [.int .i64 0, .int .i64 11]) h' = true)
    (k3 : ∀ vs, (idx name (names cs)).isSome → given cs name (ofT T) gs (zeros (fieldsOf cs name)) = some vs → T.most ≤ T.fs.length → ∀ h', Ext h h' → h'.Ok → K (.tup [.int .i64 0, .int .i64 12]) h' = true)
    (k4 : ∀ vs, (idx name (names cs)).isSome → given cs name (ofT T) gs (zeros (fieldsOf cs name)) = some vs → T.fs.length < T.most → ∀ h' τ' T', SO B τ' o h0 h' T' → St o τ τ' h h' → SI cs b T' → InsT T T' name vs st → K (.tup [.int .i64 ((T.next + 1 : Nat) : Int), .int .i64 0]) h' = true) :
    callN E (n + 8) (.func 10) [.ptr T.p 0 0 0, .str name, sv, .bool st] h K = true := by
  have hlm : lim = 4611686018427387904 := rfl
  have hmo : most = 1099511627776 := rfl
  apply d10
  unfold s10
  have hf62 := hfs name
  refine z_nil ?_; refine z_fadr ?_; refine z_of O.l0 ?_
  refine u16 (n := n + 5) (TR.ext O.e) A O.ok (by omega) (by omega) (fun e => ?_) fun ci h1 v hi e1 o1 V1 => ?_
  · refine z_ext0 ?_; refine z_ext1 ?_; refine z_neq ?_
    rw [show (!decide ((10 : Int) = 0)) = true from rfl]
    refine z_cT ?_
    exact k1 e h (Ext.refl _) O.ok
  have his : (idx name (names cs)).isSome := by rw [hi]; rfl
  refine z_ext0 ?_; refine z_ext1 ?_; refine z_neq ?_
  rw [show (!decide ((0 : Int) = 0)) = false from rfl]
  refine z_cF ?_
  unfold p10_12
  have O1 := O.ext e1 o1
  have vlen : ∀ h', lenA h' 1 v = some (.int .i64 ((fieldsOf cs name).length : Int)) := fun h' => by
    rcases V1 with ⟨q, rfl | rfl⟩ | ⟨id, g, s, cap, ex, r, rfl, _⟩
    · have : (fieldsOf cs name).length = 0 := by have := congrArg List.length q; simpa using this
      rw [this]; rfl
    · have : (fieldsOf cs name).length = 0 := by have := congrArg List.length q; simpa using this
      rw [this]; rfl
    · simp [lenA]
  have hof : ofT T = ofT T := rfl
  generalize hF : fieldsOf cs name = F at *
  have si : ∀ x : Int, AV.same (.int .i64 x) (.int .i64 x) = true := fun x => same_int _ _
  refine z_of (vlen h1) ?_; refine z_of (vlen h1) ?_
  obtain ⟨vv, h2, q2, M2, r2, e2, o2, z2⟩ := mk_row (n := 5) (i := F.length) (by' := 64) (z := z5) o1 rfl (by decide) rfl (by omega) (by omega)
  refine z_p q2 ?_
  refine z_same (vlen h2) (si _) ?_
  refine z_same (vlen h2) (si _) ?_
  obtain ⟨sw, h3, q3, M3, r3, e3, o3, z3⟩ := mk_row (n := 1) (i := F.length) (by' := 8) (z := [AV.int .i64 0]) o2 rfl (by decide) rfl (by omega) (by omega)
  refine z_p q3 ?_
  refine z_same (vlen h3) (si _) ?_
  refine z_same (vlen h3) (si _) ?_
  have lvv : vv.leaf = true := M2.view.leaf
  have lsw : sw.leaf = true := M3.view.leaf
  have hbv : buildV [.int .i64 0, .str [], .nilSlc, .bool false, .int .i64 0, .nilSlc] [(1, 1, (AV.str name)), (3, 1, (AV.bool st)), (2, 1, vv), (5, 1, sw)] = some (.agg [.int .i64 0, .str name, vv, .bool st, .int .i64 0, sw]) := by
    have c1 := cells_leaf lvv
    have c2 := cells_leaf lsw
    have c3 : (AV.str name).cells = [AV.str name] := rfl
    have c4 : (AV.bool st).cells = [AV.bool st] := rfl
    simp only [buildV, fillV, c1, c2, c3, c4, List.length_cons, List.length_nil, allLeaf, lvv, lsw, lay]
    rfl
  refine z_of hbv ?_
  obtain ⟨h4, b4, V4, e4, o4, z4⟩ := box_v (n := 6) (v := .agg [.int .i64 0, .str name, vv, .bool st, .int .i64 0, sw]) o3 rfl (by decide) (by show allLeaf [.int .i64 0, .str name, vv, .bool st, .int .i64 0, sw] = true; simp only [allLeaf, lvv, lsw]; rfl)
  refine z_p b4 ?_
  refine z_same (vlen h4) (si _) ?_
  refine z_same (vlen h4) (si _) ?_
  have V4 : Var h4 h3.sz [.int .i64 0, .str name, vv, .bool st, .int .i64 0, sw] := V4
  have A2 : loadA h4 false 1 (.ptr h3.sz 0 0 2) = some vv := V4.get rfl
  refine z_nil ?_; refine z_fadr ?_; refine z_of A2 ?_
  have s1 := e1.1
  have e14 : Ext h1 h4 := ext_two (ext_two e2 e3) e4
  have rvv : ∀ j, inRow vv j → j = h1.sz := r2
  generalize hhd : ((T.next + 1 : Nat) : Int) = hd at *
  have hfr : lkG T.fs hd = none := by rw [← hhd]; exact I.fresh
  let τ2 : Nat → Tag := tagAt (tagAt τ (fun j => j = h3.sz) (.own o (.f hd))) (inRow sw) (.own o (.st hd))
  have t2f : τ2 h3.sz = .own o (.f hd) := by
    show tagAt (tagAt τ (fun j => j = h3.sz) (.own o (.f hd))) (inRow sw) (.own o (.st hd)) h3.sz = _
    rw [tagAt_out fun q => by have := r3 _ q; omega]; exact tagAt_in (P := fun j => j = h3.sz) rfl
  have t2s : ∀ j, inRow sw j → τ2 j = .own o (.st hd) := fun j q => tagAt_in q
  have t2o : ∀ j, j ≠ h3.sz → ¬ inRow sw j → τ2 j = τ j := fun j a q => by
    show tagAt (tagAt τ (fun j => j = h3.sz) (.own o (.f hd))) (inRow sw) (.own o (.st hd)) j = _
    rw [tagAt_out q, tagAt_out (P := fun j => j = h3.sz) a]
  have rsw : ∀ j, inRow sw j → j = h2.sz := r3
  have old2 : ∀ j, j < h1.sz → τ2 j = τ j := fun j hj => t2o j (by omega) fun q => by have := rsw j q; omega
  have new2 : ∀ j, h4.sz ≤ j → τ2 j = .out := fun j hj => by rw [t2o j (by omega) fun q => by have := rsw j q; omega]; exact O1.hi j (by omega)
  have O4 : SO B (tagAt τ2 (inRow vv) .dat) o h0 h4 T := O1.fr (Fr.of_ext (X := fun _ => False) e14) o4 (fun _ x => x.elim) ⟨fun j hj => by rw [tagAt_out fun q => by have := rvv j q; omega]; exact old2 j hj, fun j hj => by
    rw [tagAt_out fun q => by have := rvv j q; omega]; exact new2 j hj⟩
  have hzl : (zeros F).length = F.length := by simp [zeros]
  have S4 : Sq Q h4 sv gs := fun h' L => S h' ((Lt.of_ext (ext_two e1 e14)).trans L)
  have fall : ∀ h5, Fr (fun j => F ≠ [] ∧ inRow vv j) h4 h5 → Ext h1 h5 := fun h5 f5 => f5.ext e14 o1 fun j q => by have := rvv j q.2; omega
  refine c28 (n := n + 2) (vals := zeros F) O4 TR A hcs hi (by rw [hF]; exact hf62) S4 (fun p hp => by have := hgB p hp; omega) (by rw [hF]; exact hzl) (fun _ => ⟨⟨_, (M2.ext e3).ext e4, all2_rep (dx_zero _ _) _⟩, fun j q => tagAt_in q, fun j q w => by have := rvv j q; have := hQ j w; omega⟩) (by omega) (by omega) (by omega) ?_ ?_
  · intro hg h5 O5 f5
    rw [hF] at f5
    refine z_notF ?_; refine z_cT ?_
    exact k2 his hg h5 (ext_two e1 (fall h5 f5)) O5.ok
  intro vs hg hvl h5 O5 f5 W5
  rw [hF] at f5 W5
  have e15 := fall h5 f5
  have O5' := O1.ext e15 O5.ok
  have flen : lenA h5 2 (.map T.fm) = some (.int .i64 (T.fs.length : Int)) := by have := O5.fs.len; simpa [mp] using this
  refine z_notT ?_; refine z_cF ?_; refine z_nil ?_; refine z_fadr ?_; refine z_of O5.l4 ?_; refine z_of flen ?_; refine z_nil ?_; refine z_fadr ?_; refine z_of O5.l1 ?_; refine z_geq ?_
  by_cases hfull : T.most ≤ T.fs.length
  · rw [decide_eq_true hfull]
    refine z_cT ?_
    exact k3 vs his hg hfull h5 (ext_two e1 e15) O5.ok
  rw [decide_eq_false hfull]
  refine z_cF ?_
  unfold p10_29
  have s5 := f5.sz
  have tg2 : Tg τ τ2 h1 h5 := ⟨old2, fun j hj => new2 j (by omega)⟩
  have P5 : SO B τ2 o h0 h5 T := O1.fr (Fr.of_ext (X := fun _ => False) e15) O5.ok (fun _ x => x.elim) tg2
  have st5 : St o τ τ2 h h5 := ⟨O5.ok, Fr.of_ext (ext_two e1 e15), fun j hj => old2 j (by omega), fun j hj => by
    by_cases w1 : j = h3.sz
    · exact .inr ⟨⟨_, by rw [w1]; exact t2f⟩, by omega⟩
    · by_cases w2 : inRow sw j
      · exact .inr ⟨⟨_, t2s j w2⟩, by have := rsw j w2; omega⟩
      · left; rw [t2o j w1 w2]; exact O.hi j hj⟩
  have D5 : DV (Out τ2) h5 vv vs := by
    have t1o : ∀ j, j < h5.sz → Out (tagAt τ2 (inRow vv) .dat) j → Out τ2 j := fun j _ q => by
      have q : tagAt τ2 (inRow vv) .dat j = .out := q
      by_cases w : inRow vv j
      · rw [tagAt_in w] at q; cases q
      · rwa [tagAt_out w] at q
    have tvv : ∀ j, inRow vv j → Out τ2 j := fun j q => by
      have e := rvv j q
      show τ2 j = .out
      rw [t2o j (by omega) fun q => by have := rsw j q; omega]; exact O1.hi j (by omega)
    by_cases hF0 : F = []
    · subst hF0
      have hv0 : vs = [] := by apply List.eq_nil_of_length_eq_zero; rw [hvl, hzl]; rfl
      have M5 := ((M2.ext e3).ext e4).fr f5 fun j _ w => w.1 rfl
      subst hv0
      exact ⟨_, M5.view, tvv, .nil⟩
    · obtain ⟨es, M5, D⟩ := W5 hF0
      exact ⟨es, M5.view, tvv, D.mono fun _ _ r => r.fr (Lt.refl _ _) O5.ok t1o⟩
  have V5 : Var h5 h3.sz [.int .i64 0, .str name, vv, .bool st, .int .i64 0, sw] := f5.var V4 fun q => by have := rvv _ q.2; omega
  have M5 : Mr h5 1 sw (List.replicate F.length [AV.int .i64 0]) := (M3.ext e4).fr f5 fun j q w => by have := rvv _ w.2; have := rsw _ q; omega
  have lp : T.p < h1.sz := O1.var.lt o1
  have lf : T.fm < h1.sz := O1.fs.lt o1
  refine z_nil ?_; refine z_fadr ?_; refine z_of P5.l3 ?_; refine z_of (inc64 (i := T.clock) (by omega)) ?_; refine z_nil ?_; refine z_fadr ?_
  obtain ⟨h6, w6, V6, b6, o6, z6⟩ := P5.var.wr P5.ok (off := 3) (v := .int .i64 ((T.clock + 1 : Nat) : Int)) (show 3 < 8 by decide) rfl
  refine z_u w6 ?_
  obtain ⟨P6, s6⟩ := P5.putS (nx := T.next) (ck := T.clock + 1) b6 o6 V6
  refine z_nil ?_; refine z_fadr ?_; refine z_of P6.l2 ?_; refine z_of (inc64 (i := T.next) (by omega)) ?_; refine z_nil ?_; refine z_fadr ?_
  obtain ⟨h7, w7, V7, b7, o7, z7⟩ := P6.var.wr P6.ok (off := 2) (v := .int .i64 ((T.next + 1 : Nat) : Int)) (show 2 < 8 by decide) rfl
  refine z_u w7 ?_
  obtain ⟨P7, s7⟩ := P6.putS (nx := T.next + 1) (ck := T.clock + 1) b7 o7 V7
  have P7 : SO B τ2 o h0 h7 { T with next := T.next + 1, clock := T.clock + 1 } := P7
  have hT1 : ∃ T1 : SD, T1 = { T with next := T.next + 1, clock := T.clock + 1 } := ⟨_, rfl⟩
  obtain ⟨T1, hT1⟩ := hT1
  rw [← hT1] at P7
  have p1 : T1.p = T.p := by rw [hT1]
  have fs1 : T1.fs = T.fs := by rw [hT1]
  have L2 : ∀ {g}, SO B τ2 o h0 g T1 → loadA g false 1 (.ptr T.p 0 0 2) = some (.int .i64 hd) := fun P => by have := P.l2; rw [hT1] at this; rw [← hhd]; exact this
  have L3 : ∀ {g}, SO B τ2 o h0 g T1 → loadA g false 1 (.ptr T.p 0 0 3) = some (.int .i64 ((T.clock + 1 : Nat) : Int)) := fun P => by have := P.l3; rw [hT1] at this; exact this
  generalize hc : ((T.clock + 1 : Nat) : Int) = c at *
  have s57 := (st5.trans O.ok s6).trans O.ok s7
  have D7 : DV (Out τ2) h7 vv vs := (D5.st P5.ok s6).st P6.ok s7
  have V7' : Var h7 h3.sz [.int .i64 0, .str name, vv, .bool st, .int .i64 0, sw] := b7.var (b6.var V5 (by omega)) (show h3.sz ≠ T.p by omega)
  have M7 : Mr h7 1 sw (List.replicate F.length [AV.int .i64 0]) := (M5.fr (X := fun j => j = T.p) (Fr.of_but rfl b6) fun j q e => by have := rsw j q; omega).fr (X := fun j => j = T.p) (Fr.of_but rfl b7) fun j q e => by have := rsw j q; omega
  have hfr1 : lkG T1.fs hd = none := by rw [fs1]; exact hfr
  refine z_nil ?_; refine z_fadr ?_; refine z_of (L2 P7) ?_; refine z_nil ?_; refine z_fadr ?_; refine z_of (L3 P7) ?_; refine z_nil ?_; refine z_fadr ?_
  obtain ⟨h8, w8, V8, b8, o8, z8⟩ := V7'.wr o7 (off := 0) (v := .int .i64 hd) (show 0 < 6 by decide) rfl
  refine z_u w8 ?_
  obtain ⟨P8, s8⟩ := P7.wf hfr1 (Fr.of_but (.inl t2f) b8) o8
  have D8 := D7.st P7.ok s8
  have M8 := M7.fr (X := fun j => j = h3.sz) (Fr.of_but rfl b8) fun j q e => by have := rsw j q; omega
  refine z_nil ?_; refine z_fadr ?_
  obtain ⟨h9, w9, V9, b9, o9, z9⟩ := V8.wr o8 (off := 4) (v := .int .i64 c) (show 4 < 6 by decide) rfl
  refine z_u w9 ?_
  obtain ⟨P9, s9⟩ := P8.wf hfr1 (Fr.of_but (.inl t2f) b9) o9
  have D9 := D8.st P8.ok s9
  have M9 := M8.fr (X := fun j => j = h3.sz) (Fr.of_but rfl b9) fun j q e => by have := rsw j q; omega
  have V9 : Var h9 h3.sz [.int .i64 hd, .str name, vv, .bool st, .int .i64 c, sw] := V9
  have s59 := (s57.trans O.ok s8).trans O.ok s9
  have A5 : loadA h9 false 1 (.ptr h3.sz 0 0 5) = some sw := V9.get rfl
  have len9 : lenA h9 1 sw = some (.int .i64 (F.length : Int)) := by have := M9.view.len; rwa [List.length_replicate] at this
  refine z_nil ?_; refine z_fadr ?_; refine z_of A5 ?_; refine z_of len9 ?_
  clear s6 s7 s8 s9 D5 D7 D8 M5 M7 M8 V5 V7' V8 P5 P6 P8
  suffices H : ∀ m i g, F.length - i < m → i ≤ F.length → SO B τ2 o h0 g T1 → St o τ τ2 h g → Var g h3.sz [.int .i64 hd, .str name, vv, .bool st, .int .i64 c, sw] → Mr g 1 sw (ints (List.replicate i c ++ List.replicate (F.length - i) 0)) → DV (Out τ2) g vv vs →
      l10_39 (callN E (n + 7)) (n + 7) m (.ptr T.p 0 0 0) (.str name) (.ptr h3.sz 0 0 0) (.int .i64 (F.length : Int)) (.int .i64 (i : Int)) g K = true from
    H (n + 7) 0 h9 (by omega) (Nat.zero_le _) P9 s59 V9 (by rw [List.replicate_zero, List.nil_append, Nat.sub_zero]; simpa [ints] using M9) D9
  intro m
  induction m with
  | zero => intro i g hm; omega
  | succ m ih =>
    intro i g hm hi P s V M D
    unfold l10_39 b10_39
    refine z_lss ?_
    by_cases hlt : i < F.length
    · refine z_ct (decide_eq_true (by omega)) ?_
      have A5 : loadA g false 1 (.ptr h3.sz 0 0 5) = some sw := V.get rfl
      have hil : i < (ints (List.replicate i c ++ List.replicate (F.length - i) 0)).length := by rw [ints_len]; simp; omega
      obtain ⟨id3, g3, i1, i2, g', i3, M', b', z', o'⟩ := M.set (x := .int .i64 c) (List.getElem?_eq_getElem hil) (by simp [ints]) rfl rfl
      refine z_nil ?_; refine z_fadr ?_; refine z_of A5 ?_; refine z_nil ?_; refine z_fadr ?_; refine z_of (L3 P) ?_; refine z_of (i1 .i64) ?_; refine z_u i3 ?_; refine z_of (inc64 (i := i) (by omega)) ?_
      obtain ⟨P', s'⟩ := P.wf hfr1 (Fr.of_but (.inr (t2s _ i2)) b') (o' P.ok)
      have M' : Mr g' 1 sw (ints (List.replicate (i + 1) c ++ List.replicate (F.length - (i + 1)) 0)) := by rw [← ints_rep i F.length c hlt]; exact M'
      exact ih (i + 1) g' (by omega) (by omega) P' (s.trans O.ok s') (b'.var V (by have := rsw _ i2; omega)) M' (D.st P.ok s')
    · refine z_cf (decide_eq_false (by omega)) ?_
      have hiF : i = F.length := by omega
      subst hiF
      rw [Nat.sub_self, List.replicate_zero, List.append_nil] at M
      unfold p10_52
      have L4 : loadA g false 1 (.ptr T.p 0 0 4) = some (.map T.fm) := by have := P.l4; rw [hT1] at this; exact this
      have A0 : loadA g false 1 (.ptr h3.sz 0 0 0) = some (.int .i64 hd) := V.get rfl
      refine z_nil ?_; refine z_fadr ?_; refine z_of L4 ?_; refine z_nil ?_; refine z_fadr ?_; refine z_of A0 ?_
      have hvF : vs.length = F.length := by rw [hvl, hzl]
      have hvb : ∀ v ∈ vs, szV v ≤ b := given_all (P := fun v => szV v ≤ b) (fun v hv => by rw [List.eq_of_mem_replicate hv]; exact hb1) hgB hg
      have hvB : szVs vs ≤ B := by
        have h1 := sz_all hvb
        have h2 : vs.length * b ≤ 62 * b := Nat.mul_le_mul_right b (by omega)
        omega
      let x : FD := ⟨h3.sz, name, vv, vs, st, T.clock + 1, sw, List.replicate F.length c⟩
      have FX : FO B τ2 o g hd x := ⟨t2f, by rw [← hc] at V; exact V, D, hvB, M, t2s⟩
      obtain ⟨g1, u1, u2, u3, u4, u5⟩ := P.fs.upd intKeys hd (.ptr h3.sz 0 0 0)
      have ef : T1.fm = T.fm := by rw [hT1]
      have u1' : mupdA g (.leaf .int) (.map T.fm) (.int .i64 hd) (.ptr h3.sz 0 0 0) = some g1 := by rw [← ef]; exact u1
      refine z_u u1' ?_
      obtain ⟨PP, sP⟩ := P.addF (x := x) u2 (u4 P.ok) u5 FX
      have hup : upG T1.fs hd x = T.fs ++ [(hd, x)] := by rw [upG_none hfr1, fs1]
      have F1 := PP.f hd x (by show (hd, x) ∈ upG T1.fs hd x; rw [hup]; simp)
      have L5 : loadA g1 false 1 (.ptr T.p 0 0 5) = some (.ptr T.all.id 0 0 0) := by have := PP.l5; rw [hT1] at this; exact this
      have A0 : loadA g1 false 1 (.ptr h3.sz 0 0 0) = some (.int .i64 hd) := F1.l0
      refine z_nil ?_; refine z_fadr ?_; refine z_of L5 ?_; refine z_nil ?_; refine z_fadr ?_; refine z_of A0 ?_
      have hT2 : { T1 with fs := upG T1.fs hd x } = { T with fs := T.fs ++ [(((T.next + 1 : Nat) : Int), x)], next := T.next + 1, clock := T.clock + 1 } := by rw [hup, hT1, hhd]
      rw [hT2] at PP
      have ir := ins_rows (n := n) (K := K) I PP (s.trans O.ok sP) O rfl (by omega) (by omega) (by omega) (by omega) fun h' τ' T' O' s' eq' rows => ?_
      · rw [hhd] at ir
        exact ir
      rw [hhd] at eq' rows ⊢
      have hrT : ∀ i y, InR T' i y ↔ InR T i y ∨ (y = hd ∧ (i = .all ∨ i = .c name ∨ i = .k (name, spV vs))) := fun i y => by
        rw [rows i y]
        refine or_congr (Iff.of_eq ?_) Iff.rfl
        unfold InR
        have : ({ T with fs := T.fs ++ [(hd, x)], next := T.next + 1, clock := T.clock + 1 } : SD).row i = T.row i := by cases i <;> rfl
        rw [this]
      have fs' : T'.fs = T.fs ++ [(hd, x)] := by rw [eq']
      have fsu : T'.fs = upG T.fs hd x := by rw [fs', upG_none hfr]
      refine k4 vs his hg (by omega) h' τ' T' O' s' ⟨?_, fun k y hk => ?_, fun i y => ?_, fun k y hk => ?_⟩ ⟨⟨x, by rw [fs', hhd], rfl, rfl, rfl, rfl, by rw [hvF, hc]⟩, ⟨by rw [eq'], by rw [eq'], by rw [eq'], by rw [eq'], by rw [eq']⟩, by rw [hhd]; exact hrT⟩
      · rw [fs', List.map_append, List.pairwise_append]
        refine ⟨I.ks, by simp, fun a ha z hz => ?_⟩
        obtain ⟨⟨k, y⟩, hk, rfl⟩ := List.mem_map.1 ha
        have := I.kb k y hk
        simp only [List.map_cons, List.map_nil, List.mem_singleton] at hz
        rw [hz]; show k < hd; omega
      · have hn : T'.next = T.next + 1 := by rw [eq']
        rw [hn]
        rw [fs'] at hk
        rcases List.mem_append.1 hk with hk | hk
        · have := I.kb k y hk; omega
        · simp only [List.mem_singleton, Prod.mk.injEq] at hk
          rw [hk.1]; omega
      · rw [hrT, fsu, lkG_up, I.rw]
        by_cases e : y = hd
        · rw [if_pos e]
          subst e
          constructor
          · rintro (⟨z, q, _⟩ | ⟨_, q⟩)
            · rw [hfr] at q; cases q
            · refine ⟨x, rfl, ?_⟩
              rcases q with rfl | rfl | rfl
              · trivial
              · rfl
              · rfl
          · rintro ⟨z, q, w⟩
            cases q
            refine .inr ⟨rfl, ?_⟩
            cases i with
            | all => exact .inl rfl
            | c s => have w : name = s := w; rw [w]; exact .inr (.inl rfl)
            | k s => have w : (name, spV vs) = s := w; rw [w]; exact .inr (.inr rfl)
        · rw [if_neg e]
          simp [e]
      · rw [fs'] at hk
        rcases List.mem_append.1 hk with hk | hk
        · exact I.fc k y hk
        · simp only [List.mem_singleton, Prod.mk.injEq] at hk
          rw [hk.2]
          refine ⟨his, ?_, ?_, hvb⟩
          · show vs.length = (fieldsOf cs name).length
            rw [hF]; exact hvF
          · show (List.replicate F.length c).length = vs.length
            rw [List.length_replicate, hvF]
end
end Go.Proofs.Ythifmankpcadjaa
namespace Go.Proofs.Ythifmankpcadjaa
open Go.Ab
set_option linter.unusedSimpArgs false
set_option linter.unusedVariables false
end Go.Proofs.Ythifmankpcadjaa
namespace Go.Proofs.Ythifmankpcadjaa
open Go.Ab
set_option linter.unusedSimpArgs false
set_option linter.unusedVariables false
section
variable {B b : Nat} {τ : Nat → Tag} {o : Nat} {h0 h h' : AHeap} {T : SD} {K : Kont} {n : Nat} {cs : List Cls} {k : Int}
end
end Go.Proofs.Ythifmankpcadjaa
namespace Go.Proofs.Ythifmankpcadjaa
open Go.Ab
set_option linter.unusedSimpArgs false
set_option linter.unusedVariables false
noncomputable instance valDec : DecidableEq Val := fun a b => Classical.propDecidable (a = b)
section
variable {B : Nat} {τ : Nat → Tag} {o : Nat} {h0 h h' : AHeap} {T : SD} {k : Int} {x x' : FD}
end
end Go.Proofs.Ythifmankpcadjaa
namespace Go.Proofs.Ythifmankpcadjaa
open Go.Ab
set_option linter.unusedSimpArgs false
set_option linter.unusedVariables false
section
variable {B b : Nat} {τ : Nat → Tag} {o : Nat} {h0 h h' : AHeap} {T : SD} {K : Kont} {n : Nat} {cs : List Cls} {k : Int} {Q : Nat → Prop} {sv : AV} {gs : List (Str × Val)}
end
end Go.Proofs.Ythifmankpcadjaa
namespace Go.Proofs.Ythifmankpcadjaa
open Go.Ab
set_option linter.unusedSimpArgs false
set_option linter.unusedVariables false
theorem c41 {n : Nat} {h : AHeap} {v : AV} {es : List (List AV)} {K : Kont} (ho : h.Ok) (V : View h 1 v es) (hl : es.length < 1000000)
    (k : ∀ h' v', Ext h h' → h'.Ok → View h' 1 v' es → (es ≠ [] → Mr h' 1 v' es) → (∀ j, inRow v' j → h.sz ≤ j) → K v' h' = true) : callN E (n + 1) (.func 41) [v] h K = true := by
  apply d41
  unfold s41
  have hnil : v = .nilSlc ∨ eqV h false .slc v .nilSlc = some (.bool false) := by
    rcases V with ⟨_, rfl | rfl⟩ | ⟨id, g, s, cap, ex, r, rfl, _⟩
    · exact .inl rfl
    · exact .inr rfl
    · exact .inr rfl
  rcases hnil with rfl | hne
  · have hes : es = [] := by
      rcases V with ⟨e, _⟩ | ⟨_, _, _, _, _, _, e, _⟩
      · exact e
      · cases e
    have : eqV h false .slc .nilSlc .nilSlc = some (.bool true) := rfl
    refine z_of this ?_; refine z_cT ?_
    exact k h _ (Ext.refl h) ho V (fun e => absurd hes e) fun j q => absurd q inRow_nil
  · refine z_of hne ?_; refine z_cF ?_
    have hb : bsliceV h 0 1 [AV.int .i64 0] [] = some (.slc h.sz 0 0 0 0 true, Ab.newRow h [] 1) := rfl
    refine z_p hb ?_
    have e1 := ext_newRow ho [] 1
    have o1 := ok_newRow ho [] 1
    have r1 : (Ab.newRow h [] 1).row h.sz = some { es := [], sz := 1, g := 0, m := 0, rw := true } := by rw [AHeap.row_some]; exact get_push_same _ _
    generalize Ab.newRow h [] 1 = h1 at *
    have V1 := V.ext e1
    cases es with
    | nil =>
      have : appendA h1 1 8 (.slc h.sz 0 0 0 0 true) v = some (.slc h.sz 0 0 0 0 true, h1) := by
        simp only [appendA, show Nat.beq 1 0 = false from rfl, cond_false, V1.src, appendNew]
      refine z_p this ?_
      exact k h1 _ e1 o1 (.inr ⟨h.sz, 0, 0, 0, true, _, rfl, r1, Nat.le_refl _, rfl, rfl, Nat.le_refl _⟩) (fun e => absurd rfl e) fun j q => by rw [inRow_slc.1 q]; exact Nat.le_refl _
    | cons y l =>
      have b1 : Nat.ble ((0 + (y :: l).length) * 8) most = true := nble_true.2 (by unfold most; omega)
      have b2 : Nat.ble (0 + (y :: l).length) most = true := nble_true.2 (by unfold most; omega)
      have b3 : Nat.ble (0 + (y :: l).length) 0 = false := by
        cases hh : Nat.ble (0 + (y :: l).length) 0 with
        | false => rfl
        | true => have := nble_true.1 hh; simp at this
      have : appendA h1 1 8 (.slc h.sz 0 0 0 0 true) v = some (.slc h1.sz 0 0 (0 + (y :: l).length) (0 + (y :: l).length) false, Ab.newRow h1 (y :: l) 1) := by
        simp only [appendA, show Nat.beq 1 0 = false from rfl, cond_false, V1.src, appendNew, r1, b1, b2, b3, Nat.beq_refl, Bool.and_self, cond_true, Nat.ble_self_eq_true, List.drop_nil, List.take_nil, List.length_nil, List.nil_append]
      refine z_p this ?_
      have M : Mr (Ab.newRow h1 (y :: l) 1) 1 (.slc h1.sz 0 0 (0 + (y :: l).length) (0 + (y :: l).length) false) (y :: l) :=
        ⟨h1.sz, 0 + (y :: l).length, false, { es := y :: l, sz := 1, g := 0, m := 0, rw := true }, by simp, by rw [AHeap.row_some]; exact get_push_same _ _, rfl, Nat.le_refl _, rfl, rfl, by simp⟩
      exact k _ _ (e1.trans (ext_newRow o1 _ 1)) (ok_newRow o1 _ 1) M.view (fun _ => M) fun j q => by rw [← inRow_slc.1 q]; exact e1.1
structure PF where
  k : Int
  cls : Str
  vs : List Val
  stated : Bool
  born : Nat
  stamps : List Int
def pf (p : Int × FD) : PF := ⟨p.1, p.2.cls, p.2.vs, p.2.stated, p.2.born, p.2.stamps⟩
def RF (h : AHeap) (a : List AV) (f : PF) : Prop := ∃ vv sv, a = [.int .i64 f.k, .str f.cls, vv, .bool f.stated, .int .i64 (f.born : Int), sv] ∧ VV h vv f.vs ∧ View h 1 sv (ints f.stamps)
def FV (h : AHeap) (v : AV) (l : List PF) : Prop := ∃ es, View h 6 v es ∧ All2 (RF h) es l
theorem RF.ext {h h' : AHeap} {a : List AV} {f : PF} (R : RF h a f) (e : Ext h h') : RF h' a f := let ⟨vv, sv, q, V, W⟩ := R; ⟨vv, sv, q, V.ext e, W.ext e⟩
theorem FV.ext {h h' : AHeap} {v : AV} {l : List PF} (R : FV h v l) (e : Ext h h') : FV h' v l := let ⟨es, V, A⟩ := R; ⟨es, V.ext e, A.mono fun _ _ r => r.ext e⟩
structure Tld (h h2 : AHeap) (x : FD) (vv sv : AV) : Prop where
  g : ∃ lo hi, Gv x.vs h2 lo hi vv ∧ h.sz ≤ lo ∧ lo ≤ hi ∧ hi ≤ h2.sz ∧ ∀ j, inRow sv j → hi ≤ j ∧ j < h2.sz
  l : vv.leaf = true
  v : View h2 1 sv (ints x.stamps)
  m : ints x.stamps ≠ [] → Mr h2 1 sv (ints x.stamps)
section
variable {B b : Nat} {τ : Nat → Tag} {o : Nat} {h0 h h' : AHeap} {T : SD} {K : Kont} {n : Nat} {k : Int} {x : FD}
theorem c36 (F : FO B τ o h k x) (ho : h.Ok) (hs : x.stamps.length < 1000000) (hB : B < 100000000) (hn : B + 100 ≤ n) (hL : n < lim)
    (kk : ∀ h2 vv sv, Ext h h2 → h2.Ok → Tld h h2 x vv sv → K (.agg [.int .i64 k, .str x.cls, vv, .bool x.stated, .int .i64 (x.born : Int), sv]) h2 = true) : callN E (n + 2) (.func 36) [.ptr x.id 0 0 0] h K = true := by
  have hBs := F.sz
  apply d36
  unfold s36
  obtain ⟨h1, q1, V1, e1, o1, z1⟩ := alloc_v (z := [AV.int .i64 0, .str [], .nilSlc, .bool false, .int .i64 0, .nilSlc]) ho (by decide) rfl
  refine z_p q1 ?_
  have R1 := F.row.ext e1
  have A : loadA h1 true 6 (.ptr x.id 0 0 0) = some (.agg [.int .i64 k, .str x.cls, x.vv, .bool x.stated, .int .i64 (x.born : Int), x.sv]) := R1.all rfl
  refine z_nil ?_; refine z_of A ?_
  obtain ⟨h2, q2, V2, e2, o2, z2⟩ := alloc_v (z := [AV.int .i64 0, .str [], .nilSlc, .bool false, .int .i64 0, .nilSlc]) o1 (by decide) rfl
  refine z_p q2 ?_
  have lvv := F.vals.leaf
  have lsv : x.sv.leaf = true := F.st.view.leaf
  obtain ⟨h3, w3, V3, b3, o3, z3⟩ := V2.wrs o2 (n := 6) (v := .agg [.int .i64 k, .str x.cls, x.vv, .bool x.stated, .int .i64 (x.born : Int), x.sv]) rfl rfl (by show allLeaf [.int .i64 k, .str x.cls, x.vv, .bool x.stated, .int .i64 (x.born : Int), x.sv] = true; simp only [allLeaf, lvv, lsv]; rfl)
  refine z_u w3 ?_
  have V3 : Var h3 h1.sz [.int .i64 k, .str x.cls, x.vv, .bool x.stated, .int .i64 (x.born : Int), x.sv] := V3
  have e03 : Ext h h3 := b3.ext (ext_two e1 e2) ho (by omega)
  have R3 := F.row.ext e03
  have A2 : loadA h3 false 1 (.ptr x.id 0 0 2) = some x.vv := R3.get rfl
  have A5 : ∀ g, Ext h3 g → loadA g false 1 (.ptr x.id 0 0 5) = some x.sv := fun g e => (R3.ext e).get rfl
  refine z_nil ?_; refine z_fadr ?_; refine z_of A2 ?_; refine z_nil ?_; refine z_fadr ?_; refine z_of (A5 h3 (Ext.refl _)) ?_
  have VV3 : VV h3 x.vv x.vs := F.vals.now.ext e03
  refine c62 (n := n) VV3 o3 (by omega) (by omega) hL fun h4 vv e4 o4 l4 s4 G => ?_
  refine z_same (A5 h4 e4) F.st.view.same ?_
  refine c41 (n := n) o4 ((F.st.view.ext e03).ext e4) (by rw [ints_len]; exact hs) fun h5 sv e5 o5 W5 M5 r5 => ?_
  have V5 := (V3.ext e4).ext e5
  obtain ⟨h6, w6, V6, b6, o6, z6⟩ := V5.wr o5 (off := 2) (v := vv) (show 2 < 6 by decide) l4
  refine z_fadr ?_
  refine z_u w6 ?_
  have V6 : Var h6 h1.sz [.int .i64 k, .str x.cls, vv, .bool x.stated, .int .i64 (x.born : Int), x.sv] := V6
  obtain ⟨h7, w7, V7, b7, o7, z7⟩ := V6.wr o6 (off := 5) (v := sv) (show 5 < 6 by decide) W5.leaf
  refine z_fadr ?_
  refine z_u w7 ?_
  have V7 : Var h7 h1.sz [.int .i64 k, .str x.cls, vv, .bool x.stated, .int .i64 (x.born : Int), sv] := V7
  have A7 : loadA h7 true 6 (.ptr h1.sz 0 0 0) = some (.agg [.int .i64 k, .str x.cls, vv, .bool x.stated, .int .i64 (x.born : Int), sv]) := V7.all rfl
  refine z_of A7 ?_
  have e23 : Ext h1 h3 := b3.ext e2 o1 (Nat.le_refl _)
  have U1 := (((V1.ext e23).ext e4).ext e5)
  have s1 := e1.1
  have U7 := b7.var (b6.var U1 (show h.sz ≠ h1.sz by omega)) (show h.sz ≠ h1.sz by omega)
  have lsv' := W5.leaf
  obtain ⟨h8, w8, V8, b8, o8, z8⟩ := U7.wrs o7 (n := 6) (v := .agg [.int .i64 k, .str x.cls, vv, .bool x.stated, .int .i64 (x.born : Int), sv]) rfl rfl (by show allLeaf [.int .i64 k, .str x.cls, vv, .bool x.stated, .int .i64 (x.born : Int), sv] = true; simp only [allLeaf, l4, lsv']; rfl)
  refine z_u w8 ?_
  have V8 : Var h8 h.sz [.int .i64 k, .str x.cls, vv, .bool x.stated, .int .i64 (x.born : Int), sv] := V8
  refine res1 (V8.all rfl) ?_
  have s3 := e03.1
  have s4' := e4.1
  have s5 := e5.1
  have hz3 : h3.sz = h1.sz + 1 := by omega
  have e05 : Ext h h5 := ext_two (ext_two e03 e4) e5
  have e08 : Ext h h8 := b8.ext (b7.ext (b6.ext e05 ho (by omega)) ho (by omega)) ho (Nat.le_refl _)
  have f58 : Fr (fun j => j = h1.sz ∨ j = h.sz) h5 h8 := ((Fr.of_but (.inl rfl) b6).trans (Fr.of_but (.inl rfl) b7)).trans (Fr.of_but (.inr rfl) b8)
  have dr : ∀ j, inRow sv j → ¬ (j = h1.sz ∨ j = h.sz) := fun j q w => by have := r5 j q; omega
  refine kk h8 vv sv e08 o8 ⟨⟨h3.sz, h4.sz, (G.fr (Kp.of_ext e5)).fr (Kp.of_fr f58 fun j w => by omega), s3, s4', by have := f58.sz; omega, fun j q => ⟨r5 j q, by have := W5.rlt o5 q; have := f58.sz; omega⟩⟩, l4, f58.view W5 fun id g s l c ex e => dr id (by rw [e]; exact inRow_slc.2 rfl), fun ne => (M5 ne).fr f58 dr⟩
end
end Go.Proofs.Ythifmankpcadjaa
namespace Go.Proofs.Ythifmankpcadjaa
open Go.Ab
set_option linter.unusedSimpArgs false
set_option linter.unusedVariables false
section
variable {B b : Nat} {τ : Nat → Tag} {o : Nat} {h0 h h' : AHeap} {T : SD} {K : Kont} {n : Nat} {cs : List Cls}
theorem SI.all (I : SI cs b T) (O : SO B τ o h0 h T) : T.all.l = T.fs.map fun p => p.1 := by
  refine srt_ext (O.r .all T.all rfl).rn.srt I.ks fun y => ?_
  have : y ∈ T.all.l ↔ InR T .all y := ⟨fun q => ⟨_, rfl, q⟩, fun ⟨r, e, q⟩ => by cases e; exact q⟩
  rw [this, I.rw]
  constructor
  · rintro ⟨x, e, _⟩; exact List.mem_map.2 ⟨_, lkG_mem e, rfl⟩
  · intro q
    obtain ⟨⟨k, x⟩, e, rfl⟩ := List.mem_map.1 q
    exact ⟨x, lkG_of_mem O.nf e, trivial⟩
theorem SI.fslen (I : SI cs b T) (O : SO B τ o h0 h T) : T.fs.length ≤ T.next := by
  have := I.len O (i := .all) rfl
  rw [I.all O, List.length_map] at this; exact this
theorem c15 (O : SO B τ o h0 h T) (kk : K (.int .i64 (T.clock : Int)) h = true) : callN E (n + 1) (.func 15) [.ptr T.p 0 0 0] h K = true := by
  apply d15
  unfold s15
  refine z_nil ?_; refine z_fadr ?_; refine z_of O.l3 ?_
  exact kk
theorem c16 (O : SO B τ o h0 h T) (kk : K (.int .i64 (T.fs.length : Int)) h = true) : callN E (n + 1) (.func 16) [.ptr T.p 0 0 0] h K = true := by
  apply d16
  unfold s16
  have flen : lenA h 2 (.map T.fm) = some (.int .i64 (T.fs.length : Int)) := by have := O.fs.len; simpa [mp] using this
  refine z_nil ?_; refine z_fadr ?_; refine z_of O.l4 ?_; refine z_of flen ?_
  exact kk
def RFr (g : AHeap) (out : AV) (a : List AV) (f : PF) : Prop := ∃ lo hi, hi ≤ g.sz ∧ (∀ j, inRow out j → ¬ (lo ≤ j ∧ j < hi)) ∧ ∀ g', Kp lo hi g g' → RF g' a f
theorem RFr.now {g : AHeap} {out : AV} {a : List AV} {f : PF} (R : RFr g out a f) : RF g a f := let ⟨_, _, _, _, r⟩ := R; r g (Kp.refl _ _ _)
theorem RFr.step {g g' : AHeap} {out out' : AV} {a : List AV} {f : PF} (R : RFr g out a f) (e : Fr (inRow out) g g') (r : ∀ j, inRow out' j → inRow out j ∨ g.sz ≤ j) : RFr g' out' a f := by
  obtain ⟨lo, hi, a1, a2, a3⟩ := R
  refine ⟨lo, hi, Nat.le_trans a1 e.sz, fun j q w => ?_, fun g'' k => a3 g'' ((Kp.of_fr e fun j q w => a2 j q w).trans k)⟩
  rcases r j q with u | u
  · exact a2 j u w
  · omega
theorem Tld.rf {g g2 : AHeap} {k : Int} {x : FD} {vv sv out : AV} (D : Tld g g2 x vv sv) (hr : ∀ j, inRow out j → j < g.sz) : RFr g2 out [.int .i64 k, .str x.cls, vv, .bool x.stated, .int .i64 (x.born : Int), sv] (pf (k, x)) := by
  obtain ⟨lo, hi, G, q1, q4, q2, q3⟩ := D.g
  exact ⟨lo, g2.sz, Nat.le_refl _, fun j q w => by have := hr j q; omega, fun g' kp => ⟨vv, sv, rfl, G.rd g' (kp.sub (Nat.le_refl _) q2), D.v.lt (Q := fun j => hi ≤ j ∧ j < g2.sz) (fun j o q e => kp j o (by omega) q.2 e) q3⟩⟩
theorem c14 (O : SO B τ o h0 h T) (I : SI cs b T) (hfs : ∀ s, (fieldsOf cs s).length ≤ 62) (hN : T.next < 500000) (hB : B < 100000000) (hn : B + 1000000 ≤ n) (hL : n < lim)
    (kk : ∀ h2 v, Ext h h2 → h2.Ok → FV h2 v (T.fs.map pf) → K v h2 = true) : callN E (n + 3) (.func 14) [.ptr T.p 0 0 0] h K = true := by
  have hlm : lim = 4611686018427387904 := rfl
  have hmo : most = 1099511627776 := rfl
  have hlf := I.fslen O
  have Ra := (O.r .all T.all rfl).rn
  have hal := I.all O
  apply d14
  unfold s14
  have A0 : loadA h false 1 (.ptr T.all.id 0 0 0) = some T.all.v := Ra.var.get rfl
  have la : lenA h 1 T.all.v = some (.int .i64 (T.fs.length : Int)) := by have := Ra.buf.view.len; rw [ints_len, hal, List.length_map] at this; exact this
  refine z_nil ?_; refine z_fadr ?_; refine z_of O.l5 ?_; refine z_nil ?_; refine z_fadr ?_; refine z_of A0 ?_; refine z_of la ?_
  have Vall : View h 1 T.all.v (ints (T.fs.map fun p => p.1)) := by rw [← hal]; exact Ra.buf.view
  suffices H : ∀ m i g out es, T.fs.length - i < m → i ≤ T.fs.length → Ext h g → g.Ok → Own h.sz g 6 out es → All2 (RFr g out) es ((T.fs.take i).map pf) → l14_8 (callN E (n + 2)) (n + 2) m (.ptr T.p 0 0 0) out T.all.v (.int .i64 (T.fs.length : Int)) (.int .i64 (i : Int)) g K = true from
    H (n + 2) 0 h .nilSlc [] (by omega) (Nat.zero_le _) (Ext.refl _) O.ok (Own.nil _ _ _) .nil
  intro m
  induction m with
  | zero => intro i g out es hm; omega
  | succ m ih =>
    intro i g out es hm hi e ok W C
    have Og := O.ext e ok
    unfold l14_8 b14_8
    refine z_lss ?_
    by_cases hlt : i < T.fs.length
    · refine z_ct (decide_eq_true (by omega)) ?_
      have hik : i < (T.fs.map fun p => p.1).length := by simpa using hlt
      obtain ⟨id, gg, j, p1, p2⟩ := (Vall.ext e).at (ints_get hik)
      have hp : (T.fs.map fun p => p.1)[i] = (T.fs[i]).1 := by simp
      rw [hp] at p2
      have A : loadA g false 1 (.ptr id gg j 0) = some (.int .i64 (T.fs[i]).1) := by rw [p2]; rfl
      have hmem : ((T.fs[i]).1, (T.fs[i]).2) ∈ T.fs := List.getElem_mem hlt
      have lk : lookA g (.leaf .int) false .nilPtr (.map T.fm) (.int .i64 (T.fs[i]).1) = some (.ptr (T.fs[i]).2.id 0 0 0) := by
        have := Og.fs.look intKeys .nilPtr (T.fs[i]).1
        rw [lk_G, lkG_mp, lkG_of_mem Og.nf hmem] at this; exact this
      refine z_of (p1 .i64) ?_; refine z_of A ?_; refine z_nil ?_; refine z_fadr ?_; refine z_of Og.l4 ?_; refine z_of lk ?_
      have F := Og.f _ _ hmem
      obtain ⟨c1, c2, c3, c4⟩ := I.fc _ _ hmem
      have t1 : (T.fs.take (i + 1)).map pf = (T.fs.take i).map pf ++ [pf T.fs[i]] := by rw [List.take_succ_eq_append_getElem hlt, List.map_append]; rfl
      have hf := hfs (T.fs[i]).2.cls
      have hel : es.length = i := by rw [C.length]; simp; omega
      refine c36 (n := n) F ok (by omega) hB (by omega) hL fun g2 vv sv e2 o2 D => ?_
      have RFx := D.rf (k := (T.fs[i]).1) (out := out) fun j q => own_lt (own_low W) ok q
      have lsv := D.v.leaf
      have hal6 : allLeaf [.int .i64 (T.fs[i]).1, .str (T.fs[i]).2.cls, vv, .bool (T.fs[i]).2.stated, .int .i64 ((T.fs[i]).2.born : Int), sv] = true := by simp only [allLeaf, D.l, lsv]; rfl
      obtain ⟨w', g3, b1, b2, e3, o3, z3, _⟩ := bslice1_v (sz := 6) (z := [AV.int .i64 0, .str [], .nilSlc, .bool false, .int .i64 0, .nilSlc]) (v := .agg [.int .i64 (T.fs[i]).1, .str (T.fs[i]).2.cls, vv, .bool (T.fs[i]).2.stated, .int .i64 ((T.fs[i]).2.born : Int), sv]) o2 rfl (by decide) (by decide) rfl rfl hal6
      refine z_p b1 ?_
      have e13 := ext_two e2 e3
      have e03 := ext_two e e13
      obtain ⟨out', g4, a1, a2, a3, a4, a5, a6⟩ := own_app2 (bytes := 88) (W.ext e13) (by decide) e03.1 o3 O.ok e03 (Nat.le_refl _) b2.src (by
        simp only [List.length_singleton, hel]; omega) (by simp only [List.length_singleton, hel]; omega)
      refine z_p a1 ?_
      refine z_of (inc64 (i := i) (by omega)) ?_
      refine ih (i + 1) g4 out' _ (by omega) (by omega) a4 a3 a2 ?_
      rw [t1]
      have st1 : ∀ {e f}, RFr g2 out e f → RFr g4 out' e f := fun r => (r.step (g' := g3) (out' := out) (Fr.of_ext e3) fun j q => .inl q).step a5 fun j q => by
        rcases a6 j q with u | u
        · exact .inl u
        · exact .inr (by omega)
      exact (C.mono fun _ _ r => st1 (r.step (Fr.of_ext e2) fun j q => .inl q)).append (.cons (st1 RFx) .nil)
    · refine z_cf (decide_eq_false (by omega)) ?_
      rw [List.take_of_length_le (by omega)] at C
      exact kk g out e ok ⟨es, W.view, C.mono fun _ _ r => r.now⟩
end
end Go.Proofs.Ythifmankpcadjaa
namespace Go.Proofs.Ythifmankpcadjaa
open Go.Ab
set_option linter.unusedSimpArgs false
set_option linter.unusedVariables false
end Go.Proofs.Ythifmankpcadjaa
namespace Go.Proofs.Ythifmankpcadjaa
open Go.Ab
set_option linter.unusedSimpArgs false
set_option linter.unusedVariables false
theorem Good.noName {l : List Cls} (G : Good l) : idx [] (names l) = none := by
  cases h : idx [] (names l) with
  | none => rfl
  | some i =>
    have := idx_mem h
    simp only [names, List.mem_map] at this
    obtain ⟨d, hd, hd2⟩ := this
    have := (G.2 d hd).1
    rw [hd2, isName_nil] at this; cases this
theorem chain_app {l m : List Cls} (A : Asc l) (B : Asc (l ++ m)) : ∀ (i : Nat) {s : Str}, idx s (names l) = some i → (∀ c ∈ l, idx c.super (names l) = none → idx c.super (names (l ++ m)) = none) → chain (l ++ m) s = chain l s := by
  intro i
  induction i using Nat.strongRecOn with
  | _ i ih =>
    intro s hs hsup
    obtain ⟨c, hc, _⟩ := idx_get hs
    have hs' : idx s (names (l ++ m)) = some i := by rw [names_append, idx_append, hs]
    have hc' : (l ++ m)[i]? = some c := by
      rw [List.getElem?_append_left (List.getElem?_eq_some_iff.1 hc).1]; exact hc
    rw [chain_some A hs hc, chain_some B hs' hc']
    congr 1
    cases hj : idx c.super (names l) with
    | none => rw [chain_none hj, chain_none (hsup c (List.mem_of_getElem? hc) hj)]
    | some j => exact ih j (A i c hc j hj) hj hsup
theorem validGo_at {all : List Str} : ∀ (l pre : List Cls), validGo all pre l = true → ∀ (i : Nat) c, l[i]? = some c → fitsB (pre ++ l.take i) c all = true ∧ c.fields.length ≤ 62
  | [], _, _, i, c, h => by simp at h
  | d :: l, pre, hv, i, c, h => by
    simp only [validGo, Bool.and_eq_true, decide_eq_true_eq] at hv
    cases i with
    | zero => simp at h; subst h; simpa using ⟨hv.1.2, hv.1.1⟩
    | succ i =>
      simp at h
      have := validGo_at l _ hv.2 i c h
      simpa using this
theorem valid_at {l : List Cls} (hv : valid l = true) {i : Nat} {c : Cls} (hc : l[i]? = some c) : fitsB (l.take i) c (names l) = true ∧ c.fields.length ≤ 62 := by
  simp only [valid, Bool.and_eq_true] at hv
  simpa using validGo_at l [] hv.2 i c hc
theorem uniq {l : List Cls} (hv : valid l = true) {i : Nat} {c : Cls} (hc : l[i]? = some c) : idx c.name (names l) = some i := by
  have hf := (valid_at hv hc).1
  simp only [fitsB, Bool.and_eq_true, Bool.not_eq_true'] at hf
  have hn := hf.1.1.1.2
  have hlt := (List.getElem?_eq_some_iff.1 hc).1
  have e : l = l.take i ++ c :: l.drop (i + 1) := by
    have h1 := (List.getElem?_eq_some_iff.1 hc).2
    rw [← h1, ← List.drop_eq_getElem_cons hlt, List.take_append_drop]
  have e2 : names l = names (l.take i) ++ names (c :: l.drop (i + 1)) := by rw [← names_append, ← e]
  rw [e2, idx_append]
  cases hx : idx c.name (names (l.take i)) with
  | some j => rw [hx] at hn; cases hn
  | none =>
    have hl : (names (l.take i)).length = i := by rw [names_length]; simp; omega
    simp [names, idx]
    omega
theorem idx_take {l : List Cls} {s : Str} {i j : Nat} (h : idx s (names l) = some j) (hj : j < i) : idx s (names (l.take i)) = some j := by
  have e : names l = names (l.take i) ++ names (l.drop i) := by rw [← names_append, List.take_append_drop]
  rw [e, idx_append] at h
  cases hx : idx s (names (l.take i)) with
  | some k => rw [hx] at h; exact h
  | none =>
    rw [hx] at h
    simp only at h
    cases hy : idx s (names (l.drop i)) with
    | none => rw [hy] at h; cases h
    | some k =>
      rw [hy] at h
      simp at h
      rw [names_length] at h
      have hd := (idx_lt hy).1
      rw [names_length] at hd
      simp at hd h
      omega
theorem Good.take {l : List Cls} (G : Good l) (i : Nat) : Good (l.take i) := by
  refine ⟨fun k c hc => ?_, fun c hc => G.2 c (List.mem_of_mem_take hc)⟩
  have hk : k < i := by
    have := (List.getElem?_eq_some_iff.1 hc).1
    simp at this; omega
  rw [List.getElem?_take] at hc
  simp only [hk, if_true] at hc
  rcases G.1 k c hc with h | ⟨j, h1, h2⟩
  · exact .inl h
  · exact .inr ⟨j, h1, idx_take h2 (by omega)⟩
theorem chain_take {l : List Cls} (G : Good l) {i : Nat} {c : Cls} (hc : l[i]? = some c) : chain (l.take i) c.super = chain l c.super := by
  have Gt := G.take i
  rcases G.1 i c hc with h | ⟨j, h1, h2⟩
  · rw [h, chain_none G.noName, chain_none Gt.noName]
  · have e : l.take i ++ l.drop i = l := List.take_append_drop i l
    have B : Asc (l.take i ++ l.drop i) := by rw [e]; exact G.asc
    have := chain_app (m := l.drop i) Gt.asc B j (idx_take h2 h1) (fun d hd hn => ?_)
    · rw [e] at this; exact this.symm
    · rw [e]
      obtain ⟨k, hk⟩ := List.getElem?_of_mem hd
      rcases Gt.1 k d hk with h | ⟨q, _, hq⟩
      · rw [h]; exact G.noName
      · rw [hn] at hq; cases hq
theorem goF_nodup {all : List Str} : ∀ (fs prev : List Fld), goF all prev fs = true → (fnames fs).Nodup ∧ ∀ n ∈ fnames fs, n ∉ fnames prev
  | [], _, _ => ⟨List.nodup_nil, fun n h => by cases h⟩
  | f :: fs, prev, h => by
    simp only [goF, Bool.and_eq_true, decide_eq_true_eq] at h
    obtain ⟨i1, i2⟩ := goF_nodup fs _ h.2
    have hn : f.name ∉ fnames prev := by
      intro hm
      simp only [fnames, List.mem_map] at hm
      obtain ⟨g, hg, hgn⟩ := hm
      have h0 := h.1.2
      unfold cnt at h0
      rw [List.length_eq_zero_iff, List.filter_eq_nil_iff] at h0
      exact h0 g hg (by simpa using hgn)
    refine ⟨?_, fun n hm => ?_⟩
    · show (f.name :: fnames fs).Nodup
      refine List.nodup_cons.2 ⟨fun hm => i2 _ hm (by simp [fnames]), i1⟩
    · have hm' : n = f.name ∨ n ∈ fnames fs := by simpa [fnames] using hm
      rcases hm' with rfl | hm'
      · exact hn
      · intro hp
        refine i2 n hm' ?_
        simp only [fnames, List.map_append, List.mem_append] at hp ⊢
        exact .inl hp
theorem fields_step {l : List Cls} (A : Asc l) {s : Str} {i : Nat} {c : Cls} (hs : idx s (names l) = some i) (hc : l[i]? = some c) : fieldsOf l s = fieldsOf l c.super ++ c.fields := by
  unfold fieldsOf
  rw [chain_some A hs hc]
  simp
theorem flat_len {α β : Type} (f : α → List β) : ∀ (l : List α), (l.reverse.flatMap f).length = (l.flatMap f).length
  | [] => rfl
  | x :: l => by
    rw [List.reverse_cons, List.flatMap_append, List.length_append, flat_len f l]
    simp; omega
theorem fields_mem {l : List Cls} {s n : Str} : n ∈ fnames (fieldsOf l s) ↔ n ∈ fnames (upF l s) := by
  simp [fnames, fieldsOf, upF]
theorem fields_len {l : List Cls} {s : Str} : (fieldsOf l s).length = (upF l s).length := flat_len _ _
theorem fields_ok {l : List Cls} (hv : valid l = true) (G : Good l) : ∀ (i : Nat) {s : Str}, idx s (names l) = some i → (fnames (fieldsOf l s)).Nodup ∧ (fieldsOf l s).length ≤ 62 := by
  intro i
  induction i using Nat.strongRecOn with
  | _ i ih =>
    intro s hs
    obtain ⟨c, hc, hcn⟩ := idx_get hs
    have hf := (valid_at hv hc).1
    simp only [fitsB, Bool.and_eq_true, decide_eq_true_eq] at hf
    have hg := hf.1.2
    have h62 := hf.2
    have hup : upF (l.take i) c.super = upF l c.super := by unfold upF; rw [chain_take G hc]
    rw [hup] at hg h62
    obtain ⟨g1, g2⟩ := goF_nodup _ _ hg
    rw [fields_step G.asc hs hc]
    have hfst : (fnames (fieldsOf l c.super)).Nodup := by
      cases hj : idx c.super (names l) with
      | none => unfold fieldsOf; rw [chain_none hj]; exact List.nodup_nil
      | some j => exact (ih j (G.asc i c hc j hj) hj).1
    refine ⟨?_, by rw [List.length_append, fields_len]; exact h62⟩
    have e : fnames (fieldsOf l c.super ++ c.fields) = fnames (fieldsOf l c.super) ++ fnames c.fields := by simp [fnames]
    rw [e]
    refine List.nodup_append.2 ⟨hfst, g1, fun a ha b hb hab => ?_⟩
    subst hab
    exact g2 a hb (fields_mem.1 ha)
theorem fields62 {l : List Cls} (hv : valid l = true) (G : Good l) (s : Str) : (fieldsOf l s).length ≤ 62 := by
  cases h : idx s (names l) with
  | some i => exact (fields_ok hv G i h).2
  | none =>
    have : chain l s = [] := by unfold chain chainN; rw [h]
    unfold fieldsOf; rw [this]; simp
end Go.Proofs.Ythifmankpcadjaa
namespace Go.Proofs.Ythifmankpcadjaa
open Go.Ab
set_option linter.unusedSimpArgs false
set_option linter.unusedVariables false
section
variable {T T' T1 T1' : SD} {k : Int} {x x' : FD} {vs : List Val} {name : Str} {st : Bool}
end
end Go.Proofs.Ythifmankpcadjaa
namespace Go.Proofs.Ythifmankpcadjaa
open Go.Ab
set_option linter.unusedSimpArgs false
set_option linter.unusedVariables false
mutual
theorem RV.keep {h h' : AHeap} (e : Lt (fun _ => True) h h') : ∀ {a : List AV} {v : Val}, RV h a v → RV h' a v
  | a, .mk k b n t l, H => by
    simp only [RV] at H ⊢
    obtain ⟨lv, es, h1, h2, h3, h4⟩ := H
    exact ⟨lv, es, h1, h2.lt e (fun _ _ => trivial), RVs.keep e h3, h4⟩
theorem RVs.keep {h h' : AHeap} (e : Lt (fun _ => True) h h') : ∀ {es : List (List AV)} {l : List Val}, RVs h es l → RVs h' es l
  | es, [], H => by simp only [RVs] at H ⊢; exact H
  | es, v :: l, H => by
    simp only [RVs] at H ⊢
    obtain ⟨x, r, h1, h2, h3⟩ := H
    exact ⟨x, r, h1, RV.keep e h2, RVs.keep e h3⟩
end
theorem GV.sq {h0 h : AHeap} {v : AV} {l : List (Str × Val)} (G : GV h0 v l) (k0 : h0.Ok) (e : Ext h0 h) : Sq (fun j => j < h0.sz) h v l := fun h' L => by
  have q : Lt (fun _ => True) h0 h' := fun j o _ g => L j o (k0.lt g) (e.2 j o g)
  obtain ⟨es, V, A⟩ := G
  refine ⟨es, V.lt q (fun _ _ => trivial), A.mono fun a p r => ?_⟩
  obtain ⟨c, e, R⟩ := r
  exact ⟨c, e, RV.keep q R⟩
structure OpP where
  d : Int
  cls : Str
  set : List (Str × Val)
  k : Int
  st : Bool
def ROp (h : AHeap) (a : List AV) (p : OpP) : Prop := ∃ sv, a = [.int .i64 p.d, .str p.cls, sv, .int .i64 p.k, .bool p.st] ∧ GV h sv p.set
def OV (h : AHeap) (v : AV) (l : List OpP) : Prop := ∃ es, View h 5 v es ∧ All2 (ROp h) es l
theorem GV.ext {h h' : AHeap} {v : AV} {l : List (Str × Val)} (G : GV h v l) (e : Ext h h') : GV h' v l := let ⟨es, V, A⟩ := G; ⟨es, V.ext e, A.mono fun _ _ ⟨c, q, R⟩ => ⟨c, q, RV.ext e R⟩⟩
theorem ROp.ext {h h' : AHeap} {a : List AV} {p : OpP} (R : ROp h a p) (e : Ext h h') : ROp h' a p := let ⟨sv, q, G⟩ := R; ⟨sv, q, G.ext e⟩
theorem OV.ext {h h' : AHeap} {v : AV} {l : List OpP} (R : OV h v l) (e : Ext h h') : OV h' v l := let ⟨es, V, A⟩ := R; ⟨es, V.ext e, A.mono fun _ _ r => r.ext e⟩
structure Fix (cs : List Cls) (B b : Nat) (h0 : AHeap) (tb : AV) : Prop where
  tr : TableRep h0 tb cs
  asc : Asc cs
  len : cs.length ≤ 64
  f62 : ∀ s, (fieldsOf cs s).length ≤ 62
  b1 : 1 ≤ b
  bB : 62 * b ≤ B
  B : B < 100000000
section
variable {cs : List Cls} {B b i n : Nat} {h0 h h' : AHeap} {τ : Nat → Tag} {T T' : SD} {tb sv : AV} {K : Kont} {p : OpP}
end
end Go.Proofs.Ythifmankpcadjaa
namespace Go.Proofs.Ythifmankpcadjaa
open Go.Ab
set_option linter.unusedSimpArgs false
set_option linter.unusedVariables false
section
variable {cs : List Cls} {B b n : Nat} {h0 : AHeap} {tb lv dv nv hv : AV} {mo : Int} {K : Kont} {l : List OpP} {q pa pb : Nat}
end
end Go.Proofs.Ythifmankpcadjaa
namespace Go.Proofs.Ythifmankpcadjaa
open Go.Ab
set_option linter.unusedSimpArgs false
set_option linter.unusedVariables false
theorem c7 {n : Nat} {h : AHeap} {K : Kont} (k : K (.bool true) h = true) : callN E (n + 1) (.func 7) [] h K = true := k
section
variable {cs : List Cls} {B b n : Nat} {h0 h : AHeap} {τ : Nat → Tag} {T T' : SD} {tb lv dv nv hv : AV} {mo : Int} {K : Kont} {q : Nat}
end
end Go.Proofs.Ythifmankpcadjaa
namespace Go.Proofs.Ythifmankpcadjaa
open Go.Ab
set_option linter.unusedSimpArgs false
set_option linter.unusedVariables false
theorem addAny (x y : Int) : ∃ z, binA .add (.int .i64 x) (.int .i64 y) = some (.int .i64 z) := ⟨_, by rw [binA_ints _ _ _ _ rfl]; rfl⟩
section
variable {cs : List Cls} {b n : Nat} {h : AHeap} {lv dv nv hv : AV} {mo : Int} {K : Kont} {l : List OpP} {q : Nat}
theorem l35 {B23 : F3} {i : Nat} {sv : AV} {p : OpP} (hs : h.Ok) (V1 : Var h q [lv, .int .i64 mo, dv, nv, hv]) (D : OV h dv l) (hp : l[i]? = some p) (hb : ∀ p ∈ l, (∀ q ∈ p.set, szV q.2 ≤ b) ∧ p.set.length ≤ n) (hn : b + 200 ≤ n) (hL : n + 10 < lim) (hi : i < 1000)
    (kk : ∀ z h', Ext h h' → h'.Ok → B23 (.ptr q 0 0 0) (.int .i64 z) (.int .i64 ((i + 1 : Nat) : Int)) h' = true) :
    ∀ m j x g, p.set.length - j < m → j ≤ p.set.length → Ext h g → g.Ok → l6_35 (callN E (n + 2)) (n + 2) B23 m (.ptr q 0 0 0) (.int .i64 x) (.int .i64 (i : Int)) (.int .i64 (j : Int)) g K = true := by
  have hlm : lim = 4611686018427387904 := rfl
  obtain ⟨es, W, A⟩ := D
  obtain ⟨ee, he, sv, rfl, G⟩ := A.get hp
  obtain ⟨hb1, hb2⟩ := hb p (List.mem_of_getElem? hp)
  obtain ⟨id, gg, jj, u⟩ := W.atE he
  intro m
  induction m with
  | zero => intro j x g hm; omega
  | succ m ih =>
    intro j x g hm hj e o
    have A2 : loadA g false 1 (.ptr q 0 0 2) = some dv := (V1.ext e).get rfl
    obtain ⟨p1, p2⟩ := u g e
    have L2 : loadA g false 1 (.ptr id gg jj 2) = some sv := by rw [p2]; rfl
    obtain ⟨es6, W6, A6⟩ := G.ext e
    have len : lenA g 1 sv = some (.int .i64 (p.set.length : Int)) := by rw [W6.len, A6.length]
    unfold l6_35 b6_35
    refine z_fadr ?_; refine z_of A2 ?_; refine z_of (p1 .i64) ?_; refine z_fadr ?_; refine z_of L2 ?_; refine z_of len ?_; refine z_lss ?_
    by_cases hlt : j < p.set.length
    · refine z_ct (decide_eq_true (by omega)) ?_
      obtain ⟨e6, he6, c, rfl, Rc⟩ := A6.get (List.getElem?_eq_getElem hlt)
      have hbq := hb1 _ (List.getElem_mem hlt)
      obtain ⟨id6, g6, j6, y1, y2⟩ := W6.at he6
      obtain ⟨z, az⟩ := addAny x 1
      have hc5 := Rc.len5
      have L5 : loadA g true 5 (.ptr id6 g6 j6 1) = some (.agg c) := by
        rw [y2]
        simp only [partA, cond_true, List.length_cons, hc5]
        rw [nble_true.2 (Nat.le_refl 6), cond_true, List.drop_succ_cons, List.drop_zero, List.take_of_length_le (by omega)]
      refine z_of az ?_; refine z_fadr ?_; refine z_of A2 ?_; refine z_of (p1 .i64) ?_; refine z_fadr ?_; refine z_of L2 ?_; refine z_of (y1 .i64) ?_; refine z_fadr ?_; refine z_of L5 ?_
      obtain ⟨r1, r2, r3, r4⟩ := Rc.agg
      obtain ⟨w', g3, b1, b2, e3, o3, z3, _⟩ := bslice1_v (sz := 5) (z := [AV.int .i64 0, .bool false, .int .i64 0, .str [], .nilSlc]) (v := .agg c) o rfl (by decide) (by decide) rfl r2 r3
      rw [r4] at b2
      refine z_p b1 ?_
      have VVw : VV g3 w' [(p.set[j]).2] := ⟨[c], b2, .cons (RV.ext e3 Rc) .nil⟩
      refine u24 (n := n) VVw (by simp only [szVs]; omega) (by omega) fun y => ?_
      obtain ⟨z2, az2⟩ := addAny z y
      refine z_of az2 ?_; refine z_of (inc64 (i := j) (by omega)) ?_
      exact ih (j + 1) z2 g3 (by omega) (by omega) (ext_two e e3) o3
    · refine z_cf (decide_eq_false (by omega)) ?_
      unfold p6_46
      refine z_of (inc64 (i := i) (by omega)) ?_
      exact kk x g e o
theorem c6 (hs : h.Ok) (C : CV h lv cs) (D : OV h dv l) (hlf : allLeaf [lv, .int .i64 mo, dv, nv, hv] = true) (hb : ∀ p ∈ l, (∀ q ∈ p.set, szV q.2 ≤ b) ∧ p.set.length ≤ n) (hcl : cs.length ≤ n) (hn : b + 200 ≤ n) (hL : n + 10 < lim)
    (kk : ∀ c h', Ext h h' → h'.Ok → K (.bool c) h' = true) : callN E (n + 3) (.func 6) [.agg [lv, .int .i64 mo, dv, nv, hv]] h K = true := by
  have hlm : lim = 4611686018427387904 := rfl
  apply d6
  unfold s6
  obtain ⟨h1, q1, V1, e1, o1, z1⟩ := box_v (n := 5) (v := .agg [lv, .int .i64 mo, dv, nv, hv]) hs rfl (by decide) hlf
  have V1 : Var h1 h.sz [lv, .int .i64 mo, dv, nv, hv] := V1
  refine z_p q1 ?_
  have ops : ∀ (m i : Nat) (x : Int) (g : AHeap), 100 - i < m → i ≤ 100 → Ext h1 g → g.Ok → l6_23 (callN E (n + 2)) (n + 2) m (.ptr h.sz 0 0 0) (.int .i64 x) (.int .i64 (i : Int)) g K = true := by
    intro m
    induction m with
    | zero => intro i x g hm; omega
    | succ m ih =>
      intro i x g hm hi e o
      have A2 : loadA g false 1 (.ptr h.sz 0 0 2) = some dv := (V1.ext e).get rfl
      have Dg := (D.ext e1).ext e
      have len : lenA g 1 dv = some (.int .i64 (l.length : Int)) := by obtain ⟨es, W, A⟩ := Dg; rw [W.len, A.length]
      have fin : p6_47 (callN E (n + 2)) (n + 2) (.int .i64 x) g K = true := by
        unfold p6_47
        refine z_leq ?_
        exact kk _ g (ext_two e1 e) o
      unfold l6_23 b6_23
      refine z_fadr ?_; refine z_of A2 ?_; refine z_of len ?_; refine z_lss ?_
      by_cases hlt : i < l.length
      rotate_left
      · rw [decide_eq_false (show ¬ (i : Int) < (l.length : Int) by omega)]
        refine z_gft ?_; refine z_gft ?_; refine z_kf ?_; refine z_cF ?_
        exact fin
      rw [decide_eq_true (show (i : Int) < (l.length : Int) by omega)]
      refine z_gtt ?_; refine z_some ?_; refine z_gtt ?_; refine z_lss ?_; refine z_kt ?_
      by_cases h100 : i < 100
      rotate_left
      · rw [decide_eq_false (show ¬ (i : Int) < 100 by omega)]
        refine z_cF ?_
        exact fin
      rw [decide_eq_true (show (i : Int) < 100 by omega)]
      refine z_cT ?_
      unfold p6_30
      obtain ⟨hb1, hb2⟩ := hb _ (List.getElem_mem hlt)
      exact l35 (sv := dv) o (V1.ext e) Dg (List.getElem?_eq_getElem hlt) hb hn hL (by omega) (fun z h' e' o' => ih (i + 1) z h' (by omega) (by omega) (ext_two e e') o') (n + 2) 0 x g (by omega) (Nat.zero_le _) (Ext.refl _) o
  have cls : ∀ (m i : Nat) (x : Int), cs.length - i < m → i ≤ cs.length → l6_8 (callN E (n + 2)) (n + 2) m (.ptr h.sz 0 0 0) (.int .i64 x) (.int .i64 (i : Int)) h1 K = true := by
    intro m
    induction m with
    | zero => intro i x hm; omega
    | succ m ih =>
      intro i x hm hi
      have A0 : loadA h1 false 1 (.ptr h.sz 0 0 0) = some lv := V1.get rfl
      have len : lenA h1 1 lv = some (.int .i64 (cs.length : Int)) := by obtain ⟨es, W, A⟩ := C.ext e1; rw [W.len, A.length]
      unfold l6_8 b6_8
      refine z_fadr ?_; refine z_of A0 ?_; refine z_of len ?_; refine z_lss ?_
      by_cases hlt : i < cs.length
      · refine z_ct (decide_eq_true (by omega)) ?_
        obtain ⟨id, g', j, f, y1, y2, y3, y4, y5, y6⟩ := C.at2 e1 (List.getElem?_eq_getElem hlt)
        obtain ⟨z, az⟩ := addAny x 1
        obtain ⟨z2, az2⟩ := addAny z (((cs[i]).fields.map encF).length : Int)
        refine z_of az ?_; refine z_fadr ?_; refine z_of A0 ?_; refine z_of y1 ?_; refine z_fadr ?_; refine z_of y5 ?_; refine z_of (y6.ext e1).len ?_; refine z_of az2 ?_; refine z_of (inc64 (i := i) (by omega)) ?_
        exact ih (i + 1) z2 (by omega) (by omega)
      · refine z_cf (decide_eq_false (by omega)) ?_
        unfold p6_19
        exact ops (n + 2) 0 x h1 (by omega) (by omega) (Ext.refl _) o1
  exact cls (n + 2) 0 0 (by omega) (Nat.zero_le _)
end
end Go.Proofs.Ythifmankpcadjaa
namespace Go.Proofs.Ythifmankpcadjaa
open Go.Ab
set_option linter.unusedSimpArgs false
set_option linter.unusedVariables false
theorem SI.nil {cs : List Cls} {b : Nat} {T : SD} (h1 : T.fs = []) (h2 : T.all.l = []) (h3 : T.by' = []) (h4 : T.same = []) : SI cs b T := by
  refine ⟨(by rw [h1]; exact .nil), fun k x q => (by rw [h1] at q; cases q), fun i y => ?_, fun k x q => (by rw [h1] at q; cases q)⟩
  constructor
  · rintro ⟨r, e, q⟩
    cases i with
    | all => cases e; rw [h2] at q; cases q
    | c s => simp only [SD.row, h3, lkG] at e; cases e
    | k s => simp only [SD.row, h4, lkG] at e; cases e
  · rintro ⟨x, e, _⟩
    rw [h1] at e; cases e
section
variable {cs : List Cls} {B b n : Nat} {h : AHeap} {lv dv nv hv : AV} {mo : Int} {K : Kont} {l : List OpP}
end
end Go.Proofs.Ythifmankpcadjaa
namespace Go.Proofs.Ythifmankpcadjaa
open Go.Ab
set_option linter.unusedSimpArgs false
set_option linter.unusedVariables false
mutual
theorem bulk_eq {H : Type} : ∀ (d : DataW H), Rows.uptoBulk d = bulk d
  | .lit l => by cases l <;> simp [Rows.uptoBulk, bulk]
  | .nil => by simp [Rows.uptoBulk, bulk]
  | .ptr d => by simp [Rows.uptoBulk, bulk, bulk_eq d]
  | .slice a b => by simp [Rows.uptoBulk, bulk, bulkAll_eq a, bulkAll_eq b]
  | .agg a => by simp [Rows.uptoBulk, bulk, bulkAll_eq a]
  | .iface _ d => by simp [Rows.uptoBulk, bulk, bulk_eq d]
  | .map es => by simp [Rows.uptoBulk, bulk, bulkEntries_eq es]
  | .held _ => by simp [Rows.uptoBulk, bulk]
theorem bulkAll_eq {H : Type} : ∀ (l : List (DataW H)), Rows.uptoBulkAll l = bulkAll l
  | [] => rfl
  | d :: l => by simp [Rows.uptoBulkAll, bulkAll, bulk_eq d, bulkAll_eq l]
theorem bulkEntries_eq {H : Type} : ∀ (l : List (Lit × DataW H)), Rows.uptoBulkEntries l = bulkEntries l
  | [] => rfl
  | (k, d) :: l => by
    have h1 := bulk_eq d
    have h2 := bulkEntries_eq l
    cases k <;> simp [Rows.uptoBulkEntries, bulkEntries, Rows.uptoBulkEntry, bulkEntry, h1, h2]
end
def szF (f : Fld) : Nat := f.name.length + 1
def szC (c : Cls) : Nat := c.name.length + szL szF c.fields + 1
def RFd : Rd Fld := fun _ a f => a = encF f
def RC : Rd Cls := fun h a c => RCls h a c
theorem all2_enc {h : AHeap} {es : List (List AV)} {fs : List Fld} (he : All2 (RFd h) es fs) : es = fs.map encF := by
  induction he with
  | nil => rfl
  | cons h _ ih =>
    have h' : _ = encF _ := h
    rw [List.map_cons, ih, h']
theorem RFd.mono : Mono RFd := fun _ _ _ _ _ h => h
theorem RC.mono : Mono RC := fun _ _ _ _ e h => RCls.ext h e
def szG (p : Str × Val) : Nat := p.1.length + szV p.2 + 1
def szO (p : OpP) : Nat := p.cls.length + szL szG p.set + 1
theorem RG.mono : Mono RG := fun _ _ _ _ e h => let ⟨c, q, R⟩ := h; ⟨c, q, RV.ext e R⟩
theorem ROp.mono : Mono ROp := fun _ _ _ _ e h => ROp.ext h e
section
variable {H : Type} {enc : TypeId × Value → H} {W : World} {held : Bool}
theorem inV : In enc Try.prog W held 63 5 szV RV :=
  inVal (t0 := 3) (t1 := 4) (t2 := 2) (t3 := 9) (tl := 53) Try.underlying63 rfl (by kernel_rfl) Try.underlying3 (by kernel_rfl) Try.underlying4 (by kernel_rfl) Try.underlying2 (by kernel_rfl) Try.underlying9 (by kernel_rfl) Try.underlying53 (by kernel_rfl)
theorem inFd : In enc Try.prog W held 65 3 szF RFd := by
  have I := In.struct (enc := enc) (W := W) (held := held) (P := Try.prog) (t := 65) (tot := 3) Try.underlying65 rfl (by kernel_rfl)
    (InF.cons (off := 0) (n := 1) (by kernel_rfl) RStr.mono (In.str Try.underlying9) (InF.cons (off := 1) (n := 1) (by kernel_rfl) RInt.mono (In.int Try.underlying3) (InF.cons (off := 2) (n := 1) (by kernel_rfl) RStr.mono (In.str Try.underlying9) InF.nil)))
  refine I.conv ?_
  rintro h a ⟨s, i, s2, u⟩ ⟨b1, c1, rfl, _, ⟨rfl, _⟩, b2, c2, rfl, _, ⟨rfl, _⟩, b3, c3, rfl, _, ⟨rfl, _⟩, rfl⟩
  exact ⟨⟨s, i, s2⟩, rfl, by simp [szF]; omega⟩
theorem inFs : In enc Try.prog W held 50 1 (fun l => szL szF l + 1) (RSl 3 RFd) := In.slice Try.underlying50 (by kernel_rfl) (by decide) RFd.mono inFd
theorem inC : In enc Try.prog W held 52 3 szC RC := by
  have I := In.struct (enc := enc) (W := W) (held := held) (P := Try.prog) (t := 52) (tot := 3) Try.underlying52 rfl (by kernel_rfl)
    (InF.cons (off := 0) (n := 1) (by kernel_rfl) RStr.mono (In.str Try.underlying9) (InF.cons (off := 1) (n := 1) (by kernel_rfl) RStr.mono (In.str Try.underlying9) (InF.cons (off := 2) (n := 1) (by kernel_rfl) (RSl.mono RFd.mono) inFs InF.nil)))
  refine I.conv ?_
  rintro h a ⟨s, s2, fs, u⟩ ⟨b1, c1, rfl, _, ⟨rfl, _⟩, b2, c2, rfl, _, ⟨rfl, _⟩, b3, c3, rfl, _, hf, rfl⟩
  obtain ⟨v, es, rfl, hv, he⟩ := hf.view
  rw [all2_enc he] at hv
  exact ⟨⟨s, s2, fs⟩, ⟨v, rfl, hv⟩, by simp [szC]; omega⟩
theorem inCs : In enc Try.prog W held 22 1 (fun l => szL szC l + 1) (RSl 3 RC) := In.slice Try.underlying22 (by kernel_rfl) (by decide) RC.mono inC
theorem inG : In enc Try.prog W held 67 6 szG RG := by
  have I := In.struct (enc := enc) (W := W) (held := held) (P := Try.prog) (t := 67) (tot := 6) Try.underlying67 rfl (by kernel_rfl)
    (InF.cons (off := 0) (n := 1) (by kernel_rfl) RStr.mono (In.str Try.underlying9) (InF.cons (off := 1) (n := 5) (by kernel_rfl) RV.mono inV InF.nil))
  refine I.conv ?_
  rintro h a ⟨s, v, u⟩ ⟨b1, c1, rfl, _, ⟨rfl, hs⟩, b2, c2, rfl, _, hv, rfl⟩
  exact ⟨(s, v), ⟨b2, by simp, hv⟩, by simp only [szG]; omega⟩
theorem inGs : In enc Try.prog W held 37 1 (fun l => szL szG l + 1) (RSl 6 RG) := In.slice Try.underlying37 (by kernel_rfl) (by decide) RG.mono inG
theorem inO : In enc Try.prog W held 39 5 szO ROp := by
  have I := In.struct (enc := enc) (W := W) (held := held) (P := Try.prog) (t := 39) (tot := 5) Try.underlying39 rfl (by kernel_rfl)
    (InF.cons (off := 0) (n := 1) (by kernel_rfl) RInt.mono (In.int Try.underlying3) (InF.cons (off := 1) (n := 1) (by kernel_rfl) RStr.mono (In.str Try.underlying9) (InF.cons (off := 2) (n := 1) (by kernel_rfl) (RSl.mono RG.mono) inGs (InF.cons (off := 3) (n := 1) (by kernel_rfl) RInt.mono (In.int Try.underlying3) (InF.cons (off := 4) (n := 1) (by kernel_rfl) RBool.mono (In.bool Try.underlying4) InF.nil)))))
  refine I.conv ?_
  rintro h a ⟨d, c, gs, k, st, u⟩ ⟨b1, c1, rfl, _, ⟨rfl, _⟩, b2, c2, rfl, _, ⟨rfl, _⟩, b3, c3, rfl, _, hg, b4, c4, rfl, _, ⟨rfl, _⟩, b5, c5, rfl, _, hst, rfl⟩
  obtain ⟨v, es, rfl, hv, he⟩ := hg.view
  cases hst
  exact ⟨⟨d, c, gs, k, st⟩, ⟨v, rfl, es, hv, he⟩, by simp only [szO]; omega⟩
theorem inOs : In enc Try.prog W held 23 1 (fun l => szL szO l + 1) (RSl 5 ROp) := In.slice Try.underlying23 (by kernel_rfl) (by decide) ROp.mono inO
theorem inSs : In enc Try.prog W held 24 1 (fun l => szL (fun s : Str => s.length + 1) l + 1) (RSl 1 RStr) := In.slice Try.underlying24 (by kernel_rfl) (by decide) RStr.mono (In.str Try.underlying9)
theorem inIs : In enc Try.prog W held 25 1 (fun l => szL (fun _ : Int => 1) l + 1) (RSl 1 (RInt .i64)) := In.slice Try.underlying25 (by kernel_rfl) (by decide) RInt.mono (In.int Try.underlying3)
def RSx : Rd (List Cls × List OpP) := fun h a p => ∃ lv mo dv nv hv, a = [lv, .int .i64 mo, dv, nv, hv] ∧ CV h lv p.1 ∧ OV h dv p.2 ∧ allLeaf [lv, .int .i64 mo, dv, nv, hv] = true
theorem inSx : In enc Try.prog W held 27 5 (fun p => szL szC p.1 + szL szO p.2) RSx := by
  have I := In.struct (enc := enc) (W := W) (held := held) (P := Try.prog) (t := 27) (tot := 5) Try.underlying27 rfl (by kernel_rfl)
    (InF.cons (off := 0) (n := 1) (by kernel_rfl) (RSl.mono RC.mono) inCs (InF.cons (off := 1) (n := 1) (by kernel_rfl) RInt.mono (In.int Try.underlying3) (InF.cons (off := 2) (n := 1) (by kernel_rfl) (RSl.mono ROp.mono) inOs (InF.cons (off := 3) (n := 1) (by kernel_rfl) (RSl.mono RStr.mono) inSs (InF.cons (off := 4) (n := 1) (by kernel_rfl) (RSl.mono RInt.mono) inIs InF.nil)))))
  refine I.conv ?_
  rintro h a ⟨cs, mo, ops, ns, hs, u⟩ ⟨b1, c1, rfl, _, hc, b2, c2, rfl, _, ⟨rfl, _⟩, b3, c3, rfl, _, ho, b4, c4, rfl, _, hn, b5, c5, rfl, _, hh, rfl⟩
  obtain ⟨v1, e1, rfl, w1, x1⟩ := hc.view
  obtain ⟨v3, e3, rfl, w3, x3⟩ := ho.view
  obtain ⟨v4, e4, rfl, w4, x4⟩ := hn.view
  obtain ⟨v5, e5, rfl, w5, x5⟩ := hh.view
  have l1 := w1.leaf
  have l3 := w3.leaf
  have l4 := w4.leaf
  have l5 := w5.leaf
  exact ⟨(cs, ops), ⟨v1, mo, v3, v4, v5, rfl, ⟨e1, w1, x1⟩, ⟨e3, w3, x3⟩, by simp only [allLeaf, l1, l3, l4, l5]; rfl⟩, by dsimp only; omega⟩
end
end Go.Proofs.Ythifmankpcadjaa
namespace Go.Proofs.Ythifmankpcadjaa
open Go.Ab
set_option linter.unusedSimpArgs false
set_option linter.unusedVariables false
section
variable {B b : Nat} {τ : Nat → Tag} {o : Nat} {h0 h h' : AHeap} {T : SD} {K : Kont} {n : Nat} {cs : List Cls} {k : Int}
end
end Go.Proofs.Ythifmankpcadjaa
namespace Go.Proofs.Ythifmankpcadjaa
open Go.Ab
set_option linter.unusedSimpArgs false
set_option linter.unusedVariables false
section
variable {B b : Nat} {τ τ' : Nat → Tag} {o : Nat} {h0 h h' : AHeap} {T T' : SD} {K : Kont} {n : Nat} {cs : List Cls} {k : Int} {nm : Str} {vs ws : List Val} {bo i j pa : Nat} {tb : AV}
theorem c7' {h : AHeap} (k : K (.bool true) h = true) : callN E (n + 8) (.func 7) [] h K = true := c7 (n := n + 7) k
end
end Go.Proofs.Ythifmankpcadjaa
namespace Go.Proofs.Ythifmankpcadjaa
open Go.Ab
set_option linter.unusedSimpArgs false
set_option linter.unusedVariables false
section
variable {cs : List Cls} {B b n : Nat} {h0 : AHeap} {tb : AV} {K : Kont} {qo qx pa : Nat} {co : List AV} {nm : Str} {vs : List Val} {F : List Fld} {vv sv fv : AV} {bo : Nat} {st : List Int}
end
end Go.Proofs.Ythifmankpcadjaa
namespace Go.Proofs.Ythifmankpcadjaa
open Go.Ab
set_option linter.unusedSimpArgs false
set_option linter.unusedVariables false
section
variable {cs : List Cls} {B b n : Nat} {h0 g : AHeap} {τ : Nat → Tag} {T : SD} {tb : AV} {K : Kont} {qo qx pa : Nat} {co : List AV} {nm : Str} {vs : List Val} {F : List Fld} {vv sv fv : AV} {bo : Nat} {st : List Int}
end
end Go.Proofs.Ythifmankpcadjaa
namespace Go.Proofs.Ythifmankpcadjaa
open Go.Ab
set_option linter.unusedSimpArgs false
set_option linter.unusedVariables false
theorem sortedI_perm (zs : List Int) : (sortedI zs).Perm zs := List.mergeSort_perm _ _
theorem sortedI_le (zs : List Int) : (sortedI zs).Pairwise fun a b => a ≤ b := by
  have := List.pairwise_mergeSort (le := fun x y : Int => decide (x ≤ y)) (fun a b c h1 h2 => by simp only [decide_eq_true_eq] at *; omega) (fun a b => by simp only [Bool.or_eq_true, decide_eq_true_eq]; omega) zs
  exact this.imp fun h => by simpa using h
theorem sortedI_of {zs ks : List Int} (hk : Srt ks) (nd : zs.Nodup) (hm : ∀ y, y ∈ zs ↔ y ∈ ks) : sortedI zs = ks := by
  refine srt_ext ?_ hk fun y => by rw [(sortedI_perm zs).mem_iff]; exact hm y
  have h1 := sortedI_le zs
  have h2 : (sortedI zs).Pairwise fun a b => a ≠ b := (sortedI_perm zs).nodup_iff.2 nd
  exact (h1.and h2).imp fun ⟨a, b⟩ => by omega
section
variable {b n : Nat} {h : AHeap} {v : AV} {zs : List Int} {K : Kont}
theorem c47 (O : Own b h 1 v (ints zs)) (o : h.Ok) (hl : zs.length < 1000000000)
    (kk : ∀ h', Own b h' 1 v (ints (sortedI zs)) → Fr (inRow v) h h' → h'.Ok → K (.tup []) h' = true) : callN E (n + 1) (.func 47) [v] h K = true := by
  show sortI (callN E n) n [v] h K = true
  have hsl : (sortedI zs).length = zs.length := List.length_mergeSort _
  have nil : zs = [] → Own b h 1 v (ints (sortedI zs)) := fun e => by subst e; rw [show sortedI [] = [] by simp [sortedI]]; exact O
  rcases O with ⟨rfl, hz⟩ | ⟨id, r, w1, rfl, w3, w4, w5, w6, w7⟩
  · have : zs = [] := by simpa [ints] using hz
    show K (.tup []) h = true
    exact kk h (nil this) (Fr.refl _ _) o
  · show (bif Nat.beq (ints zs).length 0 then K (.tup []) h else cdec _) = true
    cases hz : Nat.beq (ints zs).length 0 with
    | true =>
      rw [cond_true]
      have := nbeq_true.1 hz
      rw [ints_len] at this
      exact kk h (nil (List.eq_nil_of_length_eq_zero this)) (Fr.refl _ _) o
    | false =>
      rw [cond_false]
      refine cdec_true.2 ⟨r, zs, rfl, (ints_len zs).symm, AHeap.row_some.1 w3, w4, w6, ?_, by omega, ?_⟩
      · rw [w7, List.drop_zero, List.take_of_length_le (by rw [ints_len]; exact Nat.le_refl _)]; simp [ints]
      · have hlay : lay r.es 0 (((sortedI zs).map (AV.int .i64)).map fun v => [v]) = ints (sortedI zs) := by
          rw [w7]
          have e1 : ((sortedI zs).map (AV.int .i64)).map (fun v => [v]) = ints (sortedI zs) := by simp [ints]
          rw [e1]
          simp only [lay, List.take_zero, List.nil_append, Nat.zero_add]
          rw [List.drop_of_length_le (by rw [ints_len, ints_len, hsl]; exact Nat.le_refl _), List.append_nil]
        unfold putSeg
        rw [hlay]
        refine kk _ (.inr ⟨id, { r with es := ints (sortedI zs), m := r.g }, w1, by rw [ints_len, ints_len, hsl], AHeap.row_some.2 (get_put_same _ _ _), w4, Nat.le_refl _, w6, rfl⟩) ((Fr.put (X := fun j => j = id) rfl h _).mono fun j e => by rw [e]; exact inRow_slc.2 rfl) (o.put (o.lt (AHeap.row_some.1 w3)) _)
end
def rowOf (T : SD) (c : Str) : List Int := match T.row (.c c) with
  | some r => r.l
  | none => []
theorem rowOf_mem {T : SD} {c : Str} {y : Int} : y ∈ rowOf T c ↔ InR T (.c c) y := by
  unfold rowOf InR
  cases T.row (.c c) with
  | none => simp
  | some r => simp
def extl (cs : List Cls) (T : SD) (s : Str) : List Int := (T.fs.filter fun p => isB cs p.2.cls s).map fun p => p.1
theorem names_nodup {l : List Cls} (hv : valid l = true) : (names l).Nodup := by
  unfold List.Nodup
  rw [List.pairwise_iff_getElem]
  intro i j hi hj hij e
  rw [names_length] at hi hj
  have u1 := uniq hv (List.getElem?_eq_getElem hi)
  have u2 := uniq hv (List.getElem?_eq_getElem hj)
  simp only [names, List.getElem_map] at e
  rw [e, u2] at u1
  cases u1; omega
theorem subs_nodup {l : List Cls} (hv : valid l = true) (s : Str) : (subsOf l s).Nodup := by
  unfold subsOf
  exact (names_nodup hv).sublist (List.filter_sublist.map _)
theorem mem_subs {l : List Cls} {c s : Str} : c ∈ subsOf l s ↔ c ∈ names l ∧ isB l c s = true := by
  unfold subsOf isB
  simp only [List.mem_map, List.mem_filter, names]
  constructor
  · rintro ⟨d, ⟨h1, h2⟩, rfl⟩; exact ⟨⟨d, h1, rfl⟩, h2⟩
  · rintro ⟨⟨d, h1, rfl⟩, h2⟩; exact ⟨d, ⟨h1, h2⟩, rfl⟩
section
variable {B b : Nat} {τ : Nat → Tag} {o : Nat} {h0 h : AHeap} {T : SD} {K : Kont} {n : Nat} {cs : List Cls} {s : Str}
theorem extl_mem (O : SO B τ o h0 h T) {y : Int} : y ∈ extl cs T s ↔ ∃ x, lkG T.fs y = some x ∧ isB cs x.cls s = true := by
  unfold extl
  simp only [List.mem_map, List.mem_filter]
  constructor
  · rintro ⟨⟨k, x⟩, ⟨h1, h2⟩, rfl⟩; exact ⟨x, lkG_of_mem O.nf h1, h2⟩
  · rintro ⟨x, h1, h2⟩; exact ⟨(y, x), ⟨lkG_mem h1, h2⟩, rfl⟩
theorem extl_srt (I : SI cs b T) : Srt (extl cs T s) := I.ks.sublist (List.filter_sublist.map _)
theorem sub_idx (A : Asc cs) {c : Str} (h : isB cs c s = true) : s ∈ names cs := by
  unfold isB at h
  rw [List.any_eq_true] at h
  obtain ⟨d, hd, e⟩ := h
  cases hi : idx c (names cs) with
  | none =>
    have : chain cs c = [] := by unfold chain chainN; rw [hi]
    rw [this] at hd; cases hd
  | some i =>
    have := chain_mem A i hi d hd
    exact List.mem_map.2 ⟨d, this, of_decide_eq_true e⟩
theorem rows_mem (I : SI cs b T) {L : List Str} {y : Int} : y ∈ (L.map (rowOf T)).flatten ↔ ∃ x, lkG T.fs y = some x ∧ x.cls ∈ L := by
  simp only [List.mem_flatten, List.mem_map]
  constructor
  · rintro ⟨_, ⟨c, hc, rfl⟩, hy⟩
    rw [rowOf_mem, I.rw] at hy
    obtain ⟨x, h1, h2⟩ := hy
    exact ⟨x, h1, by rw [show x.cls = c from h2]; exact hc⟩
  · rintro ⟨x, h1, h2⟩
    exact ⟨_, ⟨_, h2, rfl⟩, rowOf_mem.2 ((I.rw _ _).2 ⟨x, h1, rfl⟩)⟩
theorem rows_nodup (I : SI cs b T) (O : SO B τ o h0 h T) : ∀ {L : List Str}, L.Nodup → (L.map (rowOf T)).flatten.Nodup
  | [], _ => .nil
  | c :: L, hn => by
    obtain ⟨n1, n2⟩ := List.nodup_cons.1 hn
    rw [List.map_cons, List.flatten_cons, List.nodup_append]
    refine ⟨?_, rows_nodup I O n2, fun a ha b hb e => ?_⟩
    · unfold rowOf
      cases hr : T.row (.c c) with
      | none => exact .nil
      | some r => exact (O.r _ r hr).rn.srt.imp fun h => by omega
    · subst e
      rw [rowOf_mem, I.rw] at ha
      rw [rows_mem I] at hb
      obtain ⟨x, h1, h2⟩ := ha
      obtain ⟨x', h1', h2'⟩ := hb
      rw [h1] at h1'; cases h1'
      exact n1 (by rw [← show x.cls = c from h2]; exact h2')
theorem ext_rows (I : SI cs b T) (O : SO B τ o h0 h T) (hv : valid cs = true) : sortedI ((subsOf cs s).map (rowOf T)).flatten = extl cs T s := by
  refine sortedI_of (extl_srt I) (rows_nodup I O (subs_nodup hv s)) fun y => ?_
  rw [rows_mem I, extl_mem O]
  constructor
  · rintro ⟨x, h1, h2⟩; exact ⟨x, h1, (mem_subs.1 h2).2⟩
  · rintro ⟨x, h1, h2⟩
    refine ⟨x, h1, mem_subs.2 ⟨?_, h2⟩⟩
    have := (I.fc y x (lkG_mem h1)).1
    cases hi : idx x.cls (names cs) with
    | none => rw [hi] at this; cases this
    | some i => exact idx_mem hi
theorem c22 (O : SO B τ o h0 h T) (I : SI cs b T) (TR : TableRep h0 T.tb cs) (A : Asc cs) (hv : valid cs = true) (hcs : cs.length ≤ 64) (hN : T.next < 500000) (hn : 1000000 ≤ n) (hL : n < lim)
    (k : ∀ h' v, Ext h h' → h'.Ok → View h' 1 v (ints (extl cs T s)) → K v h' = true) : callN E (n + 4) (.func 22) [.ptr T.p 0 0 0, .str s] h K = true := by
  have hlm : lim = 4611686018427387904 := rfl
  have hmo : most = 1099511627776 := rfl
  apply d22
  unfold s22
  refine z_nil ?_; refine z_fadr ?_; refine z_of O.l0 ?_
  refine u20 (n := n) (TR.ext O.e) A O.ok (by omega) (by omega) (fun e => ?_) fun ci h1 v hi e1 o1 V1 => ?_
  · refine z_ext0 ?_; refine z_ext1 ?_; refine z_neq ?_
    rw [show (!decide ((10 : Int) = 0)) = true from rfl]
    refine z_cT ?_
    refine k h _ (Ext.refl _) O.ok ?_
    have : extl cs T s = [] := by
      rw [List.eq_nil_iff_forall_not_mem]
      intro y hy
      obtain ⟨x, _, h2⟩ := (extl_mem O).1 hy
      exact idx_none.1 e (sub_idx A h2)
    rw [this]; exact View.nil _ _
  refine z_ext0 ?_; refine z_ext1 ?_; refine z_neq ?_
  rw [show (!decide ((0 : Int) = 0)) = false from rfl]
  refine z_cF ?_
  unfold p22_12
  have hex := ext_rows (s := s) I O hv
  have hsl : (subsOf cs s).length ≤ 64 := by
    unfold subsOf
    rw [List.length_map]
    exact Nat.le_trans (List.length_filter_le _ _) hcs
  generalize subsOf cs s = L at *
  have vl : lenA h1 1 v = some (.int .i64 (L.length : Int)) := by rw [V1.len, List.length_map]
  refine z_of vl ?_
  suffices H : ∀ m i g out zs, L.length - i < m → i ≤ L.length → Ext h1 g → g.Ok → Own h1.sz g 1 out (ints zs) → zs = ((L.take i).map (rowOf T)).flatten → zs.length ≤ i * 500000 → l22_18 (callN E (n + 3)) (n + 3) m (.ptr T.p 0 0 0) out v (.int .i64 (L.length : Int)) (.int .i64 (i : Int)) g K = true from
    H (n + 3) 0 h1 .nilSlc [] (by omega) (Nat.zero_le _) (Ext.refl _) o1 (Own.nil _ _ _) rfl (by simp)
  intro m
  induction m with
  | zero => intro i g out zs hm; omega
  | succ m ih =>
    intro i g out zs hm hi e ok W hz hzl
    have Og := O.ext (ext_two e1 e) ok
    unfold l22_18 b22_18
    refine z_lss ?_
    by_cases hlt : i < L.length
    rotate_left
    · refine z_cf (decide_eq_false (by omega)) ?_
      unfold p22_37
      rw [List.take_of_length_le (by omega)] at hz
      refine c47 (n := n + 2) W ok (by omega) fun g' W' f o' => ?_
      rw [hz, hex] at W'
      exact k g' out (f.ext (ext_two e1 e) O.ok fun j q => by have := own_row W q; have := e1.1; omega) o' W'.view
    refine z_ct (decide_eq_true (by omega)) ?_
    obtain ⟨id, gg, j, p1, p2⟩ := (V1.ext e).at (i := i) (e := [AV.str L[i]]) (by simp [hlt])
    have Ai : loadA g false 1 (.ptr id gg j 0) = some (.str L[i]) := by rw [p2]; rfl
    have t1 : ((L.take (i + 1)).map (rowOf T)).flatten = zs ++ rowOf T L[i] := by rw [List.take_succ_eq_append_getElem hlt, List.map_append, List.flatten_append, ← hz]; simp
    refine z_of (p1 .i64) ?_; refine z_of Ai ?_; refine z_nil ?_; refine z_fadr ?_; refine z_of Og.l6 ?_
    have nx : ∀ g' out' zs', Ext h1 g' → g'.Ok → Own h1.sz g' 1 out' (ints zs') → zs' = zs ++ rowOf T L[i] → (rowOf T L[i]).length ≤ 500000 → p22_36 (callN E (n + 3)) (n + 3) (fun x0 x7 x22 x23 x24 h => l22_18 (callN E (n + 3)) (n + 3) m x0 x7 x22 x23 x24 h K) (.ptr T.p 0 0 0) out' v (.int .i64 (L.length : Int)) (.int .i64 (i : Int)) g' K = true := by
      intro g' out' zs' e' ok' W' hz' hl'
      unfold p22_36
      refine z_of (inc64 (i := i) (by omega)) ?_
      refine ih (i + 1) g' out' zs' (by omega) (by omega) e' ok' W' (by rw [hz', t1]) ?_
      rw [hz', List.length_append, Nat.succ_mul]; omega
    cases hr : T.row (.c L[i]) with
    | none =>
      have hro : rowOf T L[i] = [] := by unfold rowOf; rw [hr]
      have eqn : eqV g true .ptr .nilPtr .nilPtr = some (.bool false) := rfl
      refine z_of (Og.lkb0 hr) ?_; refine z_of eqn ?_; refine z_cF ?_
      exact nx g out zs e ok W (by rw [hro, List.append_nil]) (by rw [hro]; exact Nat.zero_le _)
    | some r =>
      have hro : rowOf T L[i] = r.l := by unfold rowOf; rw [hr]
      have R := (Og.r _ r hr).rn
      have hlr := I.len O hr
      have eqn : eqV g true .ptr (.ptr r.id 0 0 0) .nilPtr = some (.bool true) := rfl
      have A0 : loadA g false 1 (.ptr r.id 0 0 0) = some r.v := R.var.get rfl
      refine z_of (Og.lkb hr) ?_; refine z_of eqn ?_; refine z_cT ?_; refine z_nil ?_; refine z_fadr ?_; refine z_of A0 ?_
      obtain ⟨out', g4, a1, a2, a3, a4, a5, a6⟩ := own_app2 (bytes := 8) W (by decide) e.1 ok o1 e (Nat.le_refl _) R.buf.view.src (by
        rw [ints_len, ints_len]
        have : i * 500000 ≤ 64 * 500000 := Nat.mul_le_mul_right _ (by omega)
        omega) (by
        rw [ints_len, ints_len]
        have : i * 500000 ≤ 64 * 500000 := Nat.mul_le_mul_right _ (by omega)
        omega)
      refine z_p a1 ?_
      rw [← ints_app] at a2
      exact nx g4 out' _ a4 a3 a2 (by rw [hro]) (by rw [hro]; omega)
end
end Go.Proofs.Ythifmankpcadjaa
namespace Go.Proofs.Ythifmankpcadjaa
open Go.Ab
set_option linter.unusedSimpArgs false
set_option linter.unusedVariables false
theorem filt_at {α : Type} {P : α → Bool} {l : List α} {k : Nat} {x : α} (h : l[k]? = some x) (hp : P x = true) : (l.filter P)[((l.take k).filter P).length]? = some x := by
  have hk := (List.getElem?_eq_some_iff.1 h).1
  have e : l = l.take k ++ (x :: l.drop (k + 1)) := by
    have h2 := (List.getElem?_eq_some_iff.1 h).2
    rw [← h2, ← List.drop_eq_getElem_cons hk, List.take_append_drop]
  have e2 : l.filter P = (l.take k).filter P ++ (x :: l.drop (k + 1)).filter P := by
    rw [← List.filter_append, ← e]
  rw [e2, List.getElem?_append_right (Nat.le_refl _), Nat.sub_self, List.filter_cons_of_pos hp]
  rfl
theorem filt_take {α : Type} {P : α → Bool} {l : List α} {k : Nat} {x : α} (h : l[k]? = some x) : ((l.take (k + 1)).filter P).length = ((l.take k).filter P).length + (if P x = true then 1 else 0) := by
  have hk := (List.getElem?_eq_some_iff.1 h).1
  have h2 := (List.getElem?_eq_some_iff.1 h).2
  rw [List.take_succ_eq_append_getElem hk, List.filter_append, List.length_append, h2]
  by_cases hp : P x = true
  · rw [List.filter_cons_of_pos hp, if_pos hp]; rfl
  · rw [List.filter_cons_of_neg hp, if_neg hp]; rfl
section
variable {cs : List Cls} {B b n : Nat} {h0 h : AHeap} {τ : Nat → Tag} {T : SD} {tb lv dv nv hv : AV} {mo : Int} {K : Kont} {q pa : Nat} {l : List OpP}
theorem l580 (X : Fix cs B b h0 tb) (I : SI cs b T) (he : Ext h0 h) (ho : h.Ok) (V1 : Var h0 q [lv, .int .i64 mo, dv, nv, hv]) (C : CV h0 lv cs) {i : Nat} {c : Cls} (hi : cs[i]? = some c) {av ev : AV} (F : FV h av (T.fs.map pf)) (Ve : View h 1 ev (ints (extl cs T c.name))) (hfl : T.fs.length ≤ 500000) (hn : 1000000 ≤ n) (hL : n + 200 < lim) {B63 : F5}
    (kk : ∀ h', Ext h h' → h'.Ok → p5_113 (callN E (n + 8)) (n + 8) B63 (.ptr q 0 0 0) tb (.ptr pa 0 0 0) av (.int .i64 (i : Int)) ev (.int .i64 ((extl cs T c.name).length : Int)) h' K = true) :
    ∀ m k g, T.fs.length - k < m → k ≤ T.fs.length → Ext h g → g.Ok → l5_80 (callN E (n + 8)) (n + 8) B63 m (.ptr q 0 0 0) tb (.ptr pa 0 0 0) av (.int .i64 (i : Int)) ev (.int .i64 ((((T.fs.take k).filter fun p => isB cs p.2.cls c.name).length : Nat) : Int)) (.int .i64 (k : Int)) g K = true := by
  have hlm : lim = 4611686018427387904 := rfl
  have hcs := X.len
  obtain ⟨es, W, A⟩ := F
  intro m
  induction m with
  | zero => intro k g hm; omega
  | succ m ih =>
    intro k g hm hk e ok
    have la : lenA g 1 av = some (.int .i64 (T.fs.length : Int)) := by rw [(W.ext e).len, A.length, List.length_map]
    unfold l5_80 b5_80
    refine z_of la ?_; refine z_lss ?_
    by_cases hlt : k < T.fs.length
    rotate_left
    · refine z_cf (decide_eq_false (by omega)) ?_
      have hx : (extl cs T c.name).length = ((T.fs.take k).filter fun p => isB cs p.2.cls c.name).length := by
        rw [List.take_of_length_le (by omega)]; unfold extl; rw [List.length_map]
      rw [← hx]
      exact kk g e ok
    refine z_ct (decide_eq_true (by omega)) ?_
    have hfk : (T.fs.map pf)[k]? = some (pf T.fs[k]) := by rw [List.getElem?_map, List.getElem?_eq_getElem hlt]; rfl
    obtain ⟨ee, he1, vv, sv, hee, _⟩ := A.get hfk
    obtain ⟨id, gg, j, u⟩ := W.atE he1
    obtain ⟨p1, p2⟩ := u g e
    have Hk : loadA g false 1 (.ptr id gg j 0) = some (.int .i64 (T.fs[k]).1) := by rw [p2, hee]; rfl
    have Ck : ∀ g', Ext h g' → loadA g' false 1 (.ptr id gg j 1) = some (.str (T.fs[k]).2.cls) := fun g' e' => by rw [(u g' e').2, hee]; rfl
    have tst : ∀ v : AV, v = .bool false → condB v (K (.bool false) g) (optB (iadrA g 6 av (.int .i64 (k : Int))) fun v117 => optB (fadrA 1 v117) fun v118 => optB (loadA g false 1 v118) fun v119 => optB (fadrA 0 (.ptr q 0 0 0)) fun v120 => optB (loadA g false 1 v120) fun v121 => optB (iadrA g 3 v121 (.int .i64 (i : Int))) fun v122 => optB (fadrA 0 v122) fun v123 => optB (loadA g false 1 v123) fun v124 => callN E (n + 8) (.func 23) [tb, v119, v124] g fun v125 h => optB (notA v125) fun v126 => condB v126 (p5_112 (callN E (n + 8)) (n + 8) B63 (fun x1 x3 x5 x12 x13 x14 x15 x16 h => l5_80 (callN E (n + 8)) (n + 8) B63 m x1 x3 x5 x12 x13 x14 x15 x16 h K) (.ptr q 0 0 0) tb (.ptr pa 0 0 0) av (.int .i64 (i : Int)) ev (.int .i64 ((((T.fs.take k).filter fun p => isB cs p.2.cls c.name).length : Nat) : Int)) (.int .i64 (k : Int)) h K) (optB (lenA h 1 ev) fun v128 => optB (binA .geq (.int .i64 ((((T.fs.take k).filter fun p => isB cs p.2.cls c.name).length : Nat) : Int)) v128) fun v129 => optB (grdO (wantV v129 false) (some ev)) fun v130 => optB (grdO (wantV v129 false) (some (.int .i64 ((((T.fs.take k).filter fun p => isB cs p.2.cls c.name).length : Nat) : Int)))) fun v131 => optB (grdO (wantV v129 false) (iadrA h 1 v130 v131)) fun v132 => optB (grdO (wantV v129 false) (loadA h false 1 v132)) fun v133 => optB (grdO (wantV v129 false) (some av)) fun v134 => optB (grdO (wantV v129 false) (some (.int .i64 (k : Int)))) fun v135 => optB (grdO (wantV v129 false) (iadrA h 6 v134 v135)) fun v136 => optB (grdO (wantV v129 false) (fadrA 0 v136)) fun v137 => optB (grdO (wantV v129 false) (loadA h false 1 v137)) fun v138 => optB (grdO (wantV v129 false) (binA .neq v133 v138)) fun v139 => optB (pickV v129 (.bool true) v139) fun v140 => condB v140 (K (.bool false) h) (optB (binA .add (.int .i64 ((((T.fs.take k).filter fun p => isB cs p.2.cls c.name).length : Nat) : Int)) (.int .i64 1)) fun v141 => p5_112 (callN E (n + 8)) (n + 8) B63 (fun x1 x3 x5 x12 x13 x14 x15 x16 h => l5_80 (callN E (n + 8)) (n + 8) B63 m x1 x3 x5 x12 x13 x14 x15 x16 h K) (.ptr q 0 0 0) tb (.ptr pa 0 0 0) av (.int .i64 (i : Int)) ev v141 (.int .i64 (k : Int)) h K))) = true := by
      rintro v rfl
      refine z_cF ?_
      have e0 := ext_two he e
      have Q0 : loadA g false 1 (.ptr q 0 0 0) = some lv := (V1.ext e0).get rfl
      obtain ⟨id2, g2, j2, f2, y1, y2, y3, _⟩ := C.at2 e0 hi
      refine z_of (p1 .i64) ?_; refine z_fadr ?_; refine z_of (Ck g e) ?_; refine z_fadr ?_; refine z_of Q0 ?_; refine z_of y1 ?_; refine z_fadr ?_; refine z_of y3 ?_
      refine u14 (n := n + 6) (X.tr.ext e0) X.asc ok (by omega) fun g3 e3 o3 => ?_
      have e13 := ext_two e e3
      have hfilt := filt_take (P := fun p : Int × FD => isB cs p.2.cls c.name) (List.getElem?_eq_getElem hlt)
      have hlen : ((T.fs.take k).filter fun p => isB cs p.2.cls c.name).length ≤ T.fs.length := Nat.le_trans (List.length_filter_le _ _) (by rw [List.length_take]; omega)
      cases hB : isB cs (T.fs[k]).2.cls c.name with
      | false =>
        have hB' : ((chain cs (T.fs[k]).2.cls).any fun d => decide (d.name = c.name)) = false := hB
        rw [hB']
        rw [if_neg (by rw [hB]; decide)] at hfilt
        have hfilt := hfilt.trans (Nat.add_zero _)
        refine z_notF ?_; refine z_cT ?_
        unfold p5_112
        refine z_of (inc64 (i := k) (by omega)) ?_
        rw [← hfilt]
        exact ih (k + 1) g3 (by omega) (by omega) e13 o3
      | true =>
        have hB' : ((chain cs (T.fs[k]).2.cls).any fun d => decide (d.name = c.name)) = true := hB
        rw [hB']
        rw [if_pos hB] at hfilt
        have hat := filt_at (P := fun p : Int × FD => isB cs p.2.cls c.name) (List.getElem?_eq_getElem hlt) hB
        generalize hcn : ((T.fs.take k).filter fun p => isB cs p.2.cls c.name).length = cn at *
        have hx : (extl cs T c.name)[cn]? = some (T.fs[k]).1 := by unfold extl; rw [List.getElem?_map, hat]; rfl
        have hxl := (List.getElem?_eq_some_iff.1 hx).1
        have le : lenA g3 1 ev = some (.int .i64 ((extl cs T c.name).length : Int)) := by have := (Ve.ext e13).len; rwa [ints_len] at this
        refine z_notT ?_; refine z_cF ?_; refine z_of le ?_; refine z_geq ?_
        rw [decide_eq_false (show ¬ ((extl cs T c.name).length : Int) ≤ (cn : Int) by omega)]
        obtain ⟨id4, g4, j4, t1, t2⟩ := (Ve.ext e13).at (i := cn) (e := [AV.int .i64 (T.fs[k]).1]) (by simp [ints, hx])
        have T4 : loadA g3 false 1 (.ptr id4 g4 j4 0) = some (.int .i64 (T.fs[k]).1) := by rw [t2]; rfl
        obtain ⟨p1', p2'⟩ := u g3 e13
        have Hk' : loadA g3 false 1 (.ptr id gg j 0) = some (.int .i64 (T.fs[k]).1) := by rw [p2', hee]; rfl
        refine z_gff ?_; refine z_some ?_; refine z_gff ?_; refine z_some ?_; refine z_gff ?_; refine z_of (t1 .i64) ?_; refine z_gff ?_; refine z_of T4 ?_; refine z_gff ?_; refine z_some ?_; refine z_gff ?_; refine z_some ?_; refine z_gff ?_; refine z_of (p1' .i64) ?_; refine z_gff ?_; refine z_fadr ?_; refine z_gff ?_; refine z_of Hk' ?_; refine z_gff ?_; refine z_neq ?_; refine z_kf ?_
        rw [show (!decide ((T.fs[k]).1 = (T.fs[k]).1)) = false by simp]
        refine z_cF ?_; refine z_of (inc64 (i := cn) (by omega)) ?_
        unfold p5_112
        refine z_of (inc64 (i := k) (by omega)) ?_
        rw [← hfilt]
        exact ih (k + 1) g3 (by omega) (by omega) e13 o3
    refine z_gtr ?_
    by_cases hk0 : k = 0
    · subst hk0
      rw [decide_eq_false (show ¬ (0 : Int) < ((0 : Nat) : Int) by decide)]
      refine z_gft ?_; refine z_gft ?_; refine z_gft ?_; refine z_gft ?_; refine z_gft ?_; refine z_gft ?_; refine z_gft ?_; refine z_gft ?_; refine z_gft ?_; refine z_gft ?_; refine z_gft ?_; refine z_gft ?_; refine z_kf ?_; refine z_cF ?_
      exact tst _ rfl
    rw [decide_eq_true (show (0 : Int) < (k : Int) by omega)]
    have hs1 : binA .sub (.int .i64 (k : Int)) (.int .i64 1) = some (.int .i64 ((k - 1 : Nat) : Int)) := natsub64 (b := 1) (by omega) (by omega)
    have hfk1 : (T.fs.map pf)[k - 1]? = some (pf (T.fs[k - 1]'(by omega))) := by rw [List.getElem?_map, List.getElem?_eq_getElem (by omega)]; rfl
    obtain ⟨ee1, he2, vv1, sv1, hee1, _⟩ := A.get hfk1
    obtain ⟨id1, gg1, j1, p3, p4⟩ := (W.ext e).at he2
    have Hk1 : loadA g false 1 (.ptr id1 gg1 j1 0) = some (.int .i64 (T.fs[k - 1]'(by omega)).1) := by rw [p4, hee1]; rfl
    refine z_gtt ?_; refine z_some ?_; refine z_gtt ?_; refine z_some ?_; refine z_gtt ?_; refine z_of hs1 ?_; refine z_gtt ?_; refine z_of (p3 .i64) ?_; refine z_gtt ?_; refine z_fadr ?_; refine z_gtt ?_; refine z_of Hk1 ?_; refine z_gtt ?_; refine z_some ?_; refine z_gtt ?_; refine z_some ?_; refine z_gtt ?_; refine z_of (p1 .i64) ?_; refine z_gtt ?_; refine z_fadr ?_; refine z_gtt ?_; refine z_of Hk ?_; refine z_gtt ?_; refine z_geq ?_; refine z_kt ?_
    have hlt1 : (T.fs[k - 1]'(by omega)).1 < (T.fs[k]).1 := by
      have := List.pairwise_iff_getElem.1 I.ks (k - 1) k (by rw [List.length_map]; omega) (by rw [List.length_map]; omega) (by omega)
      simpa using this
    rw [decide_eq_false (show ¬ (T.fs[k]).1 ≤ (T.fs[k - 1]'(by omega)).1 by omega)]
    refine z_cF ?_
    exact tst _ rfl
end
end Go.Proofs.Ythifmankpcadjaa
