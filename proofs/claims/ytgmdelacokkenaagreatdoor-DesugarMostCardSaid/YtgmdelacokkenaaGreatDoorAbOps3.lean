/-
  Appends, copies, bytes to a string, made and cleared slices.
-/
import Derived.Test.YtgmdelacokkenaaGreatDoorAbOps2
namespace Go.Ab
set_option linter.unusedSimpArgs false
set_option linter.unusedVariables false

section
variable {P : Program} {B : Base} {φ : Phi} {h h' : AHeap} {w : World} {v : AV}

/-- What the elements of a source are in the model: 'n' of them, in whatever world whose memory is the same. -/
structure SrcAt (φ : Phi) (w : World) (sz : Nat) (l : List (List AV)) (cx : Value) : Prop where
  es : ∀ e ∈ l, e.length = sz
  leaf : ∀ e ∈ l, allLeaf e = true
  len : ∀ (P : Program) (w' : World), (Builtin.lenOf cx).run P w' = .ok l.length w'
  first : ∀ n, n ≤ l.length → ∃ nv : List Value, RelVs φ (l.take n).flatten nv ∧ ∀ (P : Program) (w' : World), w'.heap = w.heap → (Builtin.firstCells sz n cx).run P w' = .ok nv.toArray w'

theorem bytes_rel (φ : Phi) : ∀ (bs : List UInt8), RelVs φ ((bs.map UInt8.toNat).map fun b => AV.int .u8 (.ofNat b)) (bs.map fun b => Value.int .u8 b.toNat)
  | [] => .nil
  | b :: bs => .cons (.int _ _) (bytes_rel φ bs)

theorem flatten_single {α : Type} : ∀ (l : List α), (l.map fun x => [x]).flatten = l
  | [] => rfl
  | x :: l => by simp only [List.map_cons, List.flatten_cons, flatten_single l]; rfl

theorem source_sound {sz : Nat} {x : AV} {cx : Value} {l : List (List AV)} (H : RelH P B φ h w) (hx : RelV φ x cx) (hs : source h sz x = some l) : SrcAt φ w sz l cx := by
  unfold source at hs
  split at hs
  · cases hs; cases hx
    refine ⟨by simp, by simp, fun P w' => by simp [Builtin.lenOf], fun n hn => ⟨[], by simp; exact .nil, fun P w' _ => by simp [Builtin.firstCells]⟩⟩
  · cases hs; cases hx
    refine ⟨by simp, by simp, fun P w' => by simp [Builtin.lenOf], fun n hn => ⟨[], by simp; exact .nil, fun P w' _ => ?_⟩⟩
    have : n = 0 := by simpa using hn
    subst this
    simp [Builtin.firstCells, loadCells, loadCellsFrom]
  · rename_i id g s len cap ex
    cases hx with
    | slc hL h1 h2 h3 h4 h5 h6 =>
      rename_i c off L
      cases h0 : Nat.beq len 0 with
      | true =>
        rw [h0, cond_true] at hs; cases hs
        have := nbeq_true.1 h0; subst this
        refine ⟨by simp, by simp, fun P w' => by simp [Builtin.lenOf], fun n hn => ⟨[], by simp; exact .nil, fun P w' _ => ?_⟩⟩
        have : n = 0 := by simpa using hn
        subst this
        simp [Builtin.firstCells, loadCells, loadCellsFrom]
      | false =>
        rw [h0, cond_false] at hs
        have hpos := nbeq_false.1 h0
        split at hs
        · rename_i r hrow
          cases hc : (Nat.ble r.m g && Nat.beq r.sz sz) with
          | false => rw [hc] at hs; cases hs
          | true =>
            rw [hc, cond_true] at hs
            simp only [Bool.and_eq_true, nble_true, nbeq_true] at hc
            obtain ⟨c1, c2⟩ := hc
            have hr : RelRow φ id r w := H.obj id _ (AHeap.row_some.1 hrow)
            cases hl : Nat.beq ((r.es.drop s).take len).length len with
            | false => simp only [hl] at hs; cases hs
            | true =>
              simp only [hl, cond_true] at hs; cases hs
              have hl := nbeq_true.1 hl
              have hsz : L.sz = r.sz := (hr.gen g L hL).2
              refine ⟨fun e he => by rw [← c2]; exact hr.es e (List.mem_of_mem_drop (List.mem_of_mem_take he)), fun e he => hr.leaf e (List.mem_of_mem_drop (List.mem_of_mem_take he)), fun P w' => by simp only [Builtin.lenOf, Sem.run_pure, hl], fun n hn => ?_⟩
              rw [hl] at hn
              have hfit : s * r.sz + n * r.sz ≤ L.ext * r.sz := by
                rw [← Nat.add_mul]; exact Nat.mul_le_mul_right _ (by omega)
              obtain ⟨vs, v1, v2, v3⟩ := row_flat hr hL c1 hfit
              have hfl : (((r.es.drop s).take len).take n).flatten = (r.es.flatten.drop (s * r.sz)).take (n * r.sz) := by
                rw [List.take_take, Nat.min_eq_left hn, fl_take (fun e he => hr.es e (List.mem_of_mem_drop he)), fl_drop hr.es]
              refine ⟨vs, by rw [hfl]; exact v1, fun P w' hw' => ?_⟩
              refine run_firstCells_some (P := P) w' sz n _ _ _ vs (by rw [v2, c2]) (fun j u hj => ?_)
              have ec : ∀ A, w'.cell? A = w.cell? A := fun A => by simp [World.cell?, hw']
              rw [ec, h6 (by omega), hsz]
              exact v3 j u hj
        · cases hs
  · rename_i s
    cases hx with
    | str hb =>
      rename_i bs
      cases hc : Nat.beq sz 1 with
      | false => rw [hc] at hs; cases hs
      | true =>
        rw [hc, cond_true] at hs; cases hs
        have := nbeq_true.1 hc; subst this
        have hsz := str_size hb
        refine ⟨by intro e he; simp at he; obtain ⟨b, _, rfl⟩ := he; rfl, by intro e he; simp at he; obtain ⟨b, _, rfl⟩ := he; rfl, fun P w' => by simp [Builtin.lenOf, hsz], fun n hn => ?_⟩
        simp only [List.length_map] at hn
        refine ⟨(bs.data.toList.take n).map fun b => Value.int .u8 b.toNat, ?_, fun P w' _ => ?_⟩
        · have e1 : ((s.map fun b => [AV.int .u8 (.ofNat b)]).take n).flatten = (((bs.data.toList.take n).map UInt8.toNat).map fun b => AV.int .u8 (.ofNat b)) := by
            rw [← List.map_take, ← hb, ← List.map_take]
            rw [show (fun b : Nat => [AV.int .u8 (.ofNat b)]) = (fun x => [x]) ∘ (fun b : Nat => AV.int .u8 (.ofNat b)) from rfl, ← List.map_map, flatten_single]
          rw [e1]
          exact bytes_rel φ _
        · simp only [Builtin.firstCells, Sem.run_pure]
          congr 1
          apply Array.ext'
          simp [ByteArray.data_extract, List.extract_eq_take_drop]
  · cases hs

/-! ### Zero cells -/
theorem zeroCells_eq {z : List Value} (hz : 0 < z.length) (n : Nat) : Builtin.zeroCells z.toArray n = (List.replicate n z).flatten.toArray := by
  apply Array.ext'
  have := mod_replicate z hz n
  simp only [Builtin.zeroCells, Array.toList_map, Array.toList_range, List.size_toArray]
  exact this

theorem zeroCells_size (z : Array Value) (n : Nat) : (Builtin.zeroCells z n).size = n * z.size := by simp [Builtin.zeroCells]

/-! ### Appends -/
/-- How an append runs that finds room. -/
def AppRoom (P : Program) (w : World) (t1 t2 ty : TypeId) (base : Option Addr) (sLen sCap m : Nat) (sz : Nat) (nv : List Value) (cx : Value) : Prop :=
  sLen + m ≤ sCap → ∀ A, base = some A → ∀ w', (storeCells (A.add (sLen * sz)) nv).run P w = .ok () w' → (Builtin.append_ #[t1, t2] ty #[.slice base sLen sCap, cx]).run P w = .ok (.slice base (sLen + m) sCap) w'

/-- How an append runs that must grow. -/
def AppGrow (P : Program) (w : World) (t1 t2 ty e : TypeId) (base : Option Addr) (sLen sCap m : Nat) (sz : Nat) (zc : Array Value) (nv : List Value) (cx : Value) : Prop :=
  sCap < sLen + m → ∀ ov : List Value, (∀ w' : World, w'.heap = w.heap → (Builtin.firstCells sz sLen (.slice base sLen sCap)).run P w' = .ok ov.toArray w') →
    (Builtin.append_ #[t1, t2] ty #[.slice base sLen sCap, cx]).run P w =
      .ok (.slice (some ⟨w.heap.size, 0, none⟩) (sLen + m) (grownCap w (sLen + m) sCap e)) (w.drew.alloc (.cells (ov ++ nv ++ (Builtin.zeroCells zc (grownCap w (sLen + m) sCap e - (sLen + m))).toList).toArray e))

theorem app_room {t1 t2 ty e : TypeId} (hu : P.underlying t1 = some (.slice e)) {sz : Nat} (hsz : sizeT P e = some sz) {d2 : TypeDesc} (hu2 : P.underlying t2 = some d2) (hni : ∀ k, d2 ≠ .int k)
    {cx : Value} {m : Nat} (hlen : ∀ w' : World, (Builtin.lenOf cx).run P w' = .ok m w') {nv : List Value} (hfirst : (Builtin.firstCells sz m cx).run P w = .ok nv.toArray w) (base : Option Addr) (sLen sCap : Nat) :
    AppRoom P w t1 t2 ty base sLen sCap m sz nv cx := by
  intro hroom A hA w' hst
  subst hA
  have hz : (d2 matches .int _) = false := by cases d2 <;> first | rfl | exact absurd rfl (hni _)
  simp only [Builtin.append_, List.getElem?_toArray, List.getElem?_cons_zero, List.getElem?_cons_succ, Sem.run_bind, run_underlying hu, run_underlying hu2, Result.andThen_ok, run_sizeT hsz, Sem.run_pure, hz, Bool.false_eq_true, if_false, hlen, hroom, if_true, Bool.not_false, hfirst, hst]

theorem app_grow {t1 t2 ty e : TypeId} (hu : P.underlying t1 = some (.slice e)) {sz : Nat} (hsz : sizeT P e = some sz) {d2 : TypeDesc} (hu2 : P.underlying t2 = some d2) (hni : ∀ k, d2 ≠ .int k)
    {i : TypeInfo} (hi : P.info? e = some i) {zv : Value} (hz0 : i.zero = some zv) {bytes : Nat} (hby : i.bytes = bytes)
    {cx : Value} {m : Nat} (hlen : ∀ w' : World, (Builtin.lenOf cx).run P w' = .ok m w') {nv : List Value} (hfirst : ∀ w' : World, w'.heap = w.heap → (Builtin.firstCells sz m cx).run P w' = .ok nv.toArray w') (base : Option Addr) (sLen sCap : Nat)
    (hmost : (sLen + m) * bytes ≤ most) (hmost2 : sLen + m ≤ most) :
    AppGrow P w t1 t2 ty e base sLen sCap m sz zv.cells nv cx := by
  intro hgrow ov hov
  have hz : (d2 matches .int _) = false := by cases d2 <;> first | rfl | exact absurd rfl (hni _)
  unfold most at hmost hmost2
  have hns : ¬ (sLen + m ≤ sCap) := by omega
  have h63 : ¬ ((((sLen + m : Nat) : Int) > IntKind.i64.max) ∧ (False ∨ i.bytes = 0)) := by
    rintro ⟨h1, _⟩
    have : IntKind.i64.max = 9223372036854775807 := by rfl
    rw [this] at h1
    omega
  have h48 : ¬ (Builtin.nextslicecap (sLen + m) sCap * i.bytes > 2 ^ 48) := by
    have := growslice_fits (bytes := i.bytes) hgrow (by rw [hby]; omega)
    omega
  have hti : ∀ w' : World, (typeInfo e).run P w' = .ok i w' := fun w' => by simp [typeInfo, hi]
  have hzv : ∀ w' : World, (zeroValue e).run P w' = .ok zv w' := fun w' => by simp [zeroValue, typeInfo, hi, hz0]
  simp only [Builtin.append_, List.getElem?_toArray, List.getElem?_cons_zero, List.getElem?_cons_succ, Sem.run_bind, run_underlying hu, run_underlying hu2, Result.andThen_ok, run_sizeT hsz, Sem.run_pure, hz, Bool.false_eq_true, if_false, hlen, hns,
    hti, Bool.not_false, if_true, h63, h48]
  have hq : (Question.appendCap (sLen + m) sCap e).forced = false := rfl
  simp only [choose, Sem.run, hq, Bool.false_eq_true, if_false, Result.andThen_ok, hti, run_askRoom]
  simp only [World.drew_eq, hov w.drew rfl, Result.andThen_ok, hfirst w.drew rfl, hzv]
  simp only [Go.newRow, Sem.run_bind, run_newObj, Result.andThen_ok, Sem.run_pure]
  congr 1
  show World.alloc _ _ = World.alloc _ _
  congr 2
  apply Array.ext'
  simp [grownCap, List.append_assoc]

theorem grown_ge (w : World) (need old : Nat) (e : TypeId) : need ≤ grownCap w need old e := by
  simp [grownCap, Question.cut]

/-- A row that has grown in place of its newest generation, or into a new block: one generation more. -/
theorem row_grow {H : RelH P B φ h w} {id : Nat} {r : Row} (hget : h.get id = some (.row r)) (hrw : r.rw = true) {es' : List (List AV)} (hes : ∀ e ∈ es', e.length = r.sz) (hlf : ∀ e ∈ es', allLeaf e = true) {m' : Nat} (hm' : m' ≤ r.g + 1)
    {w' : World} {L : Loc} (hL : L.sz = r.sz ∧ L.ext = es'.length ∧ L.base = 0) (hblk : (L.blk = w.heap.size ∧ L.blk < w'.heap.size) ∨ ∃ g0 L0, φ id g0 = some L0 ∧ L0.blk = L.blk)
    (hsz : w.heap.size ≤ w'.heap.size) (hkeep : ∀ k, k < w.heap.size → (∀ g K, φ id g = some K → K.blk ≠ k) → w'.heap[k]? = w.heap[k]?) (hkind : NoDef w w')
    (hnew : ∃ vals, RelVs φ es'.flatten vals ∧ ∀ (j : Nat) (u : Value), vals[j]? = some u → w'.cell? ⟨L.blk, j, none⟩ = some u)
    (hcells : ∃ c t, w'.heap[L.blk]? = some (.cells c t (0, 0)) ∧ c.size = L.tot * L.sz ∧ L.ext ≤ L.tot)
    (hold : ∀ g K, m' ≤ g → φ id g = some K → K.ext ≤ es'.length ∧ (∃ vals, RelVs φ (es'.take K.ext).flatten vals ∧ ∀ (j : Nat) (u : Value), vals[j]? = some u → w'.cell? ⟨K.blk, K.base + j, none⟩ = some u) ∧
      K.base = 0 ∧ ∃ c t, w'.heap[K.blk]? = some (.cells c t (0, 0)) ∧ c.size = K.tot * K.sz ∧ K.ext ≤ K.tot)
    {ty' : Option Nat} (hty : ∀ u, ty' = some u → (∃ c f, w'.heap[L.blk]? = some (.cells c u f)) ∧ ∀ g K, m' ≤ g → φ id g = some K → ∃ c f, w'.heap[K.blk]? = some (.cells c u f)) (hdm : ∃ g L, φ id g = some L := by exact ⟨_, _, by assumption⟩) :
    φ.le (φ.add id (r.g + 1) L) ∧ RelH P B (φ.add id (r.g + 1) L) (h.put id (.row { r with es := es', g := r.g + 1, m := m', ty := ty' })) w' := by
  have hrow : RelRow φ id r w := H.obj id _ hget hdm
  obtain ⟨g0, L0, hL0⟩ := hdm
  have hnone : φ id (r.g + 1) = none := by
    cases e : φ id (r.g + 1) with
    | none => rfl
    | some K => have := (hrow.gen _ K e).1; omega
  have hle := Phi.le_add (φ := φ) L hnone
  refine ⟨hle, ?_⟩
  have hkey : ∀ g K, φ.add id (r.g + 1) L id g = some K → (g = r.g + 1 ∧ K = L) ∨ φ id g = some K := by
    intro g K e
    by_cases hg : g = r.g + 1
    · subst hg; rw [Phi.add_same] at e; cases e; exact .inl ⟨rfl, rfl⟩
    · rw [Phi.add_other _ _ (by omega)] at e; exact .inr e
  refine H.update hget hrw hrw hle (fun a g ha => Phi.add_other _ _ (by omega)) ?_ hsz hkeep hkind ?_
  · intro g K e
    rcases hkey g K e with ⟨_, rfl⟩ | h1
    · exact .inr hblk
    · exact .inl h1
  · refine ⟨hm', hrow.sz, hes, hlf, ⟨L, Phi.add_same _ _ _ _, hL.2.1⟩, fun g K e => ?_, fun g K hm e => ?_, fun _ g K hm e => ?_, fun u hu _ g K hm e => ?_⟩
    · rcases hkey g K e with ⟨rfl, rfl⟩ | h1
      · exact ⟨Nat.le_refl _, hL.1⟩
      · exact ⟨Nat.le_succ_of_le (hrow.gen g K h1).1, (hrow.gen g K h1).2⟩
    · rcases hkey g K e with ⟨rfl, rfl⟩ | h1
      · obtain ⟨vals, a, b⟩ := hnew
        refine ⟨by rw [hL.2.1]; exact Nat.le_refl _, vals, ?_, fun j u hj => ?_⟩
        · rw [hL.2.1, List.take_of_length_le (Nat.le_refl _)]; exact a.mono hle
        · rw [hL.2.2, Nat.zero_add]; exact b j u hj
      · obtain ⟨a, ⟨vals, b, c⟩, _⟩ := hold g K hm h1
        exact ⟨a, vals, b.mono hle, c⟩
    · rcases hkey g K e with ⟨rfl, rfl⟩ | h1
      · exact ⟨hL.2.2, hcells⟩
      · exact (hold g K hm h1).2.2
    · rcases hkey g K e with ⟨rfl, rfl⟩ | h1
      · exact (hty u hu).1
      · exact (hty u hu).2 g K hm h1

theorem tyJoin_some {a b : Option Nat} {u : Nat} (h : tyJoin a b = some u) : a = some u ∧ b = some u := by
  unfold tyJoin at h
  split at h
  · rename_i x y
    cases hb : Nat.beq x y with
    | false => rw [hb] at h; cases h
    | true =>
      rw [hb] at h; cases h
      have := nbeq_true.1 hb
      subst this
      exact ⟨rfl, rfl⟩
  · cases h


theorem firstCells_row {id g st len cap c off : Nat} {r : Row} {L : Loc} {sz : Nat} (hr : RelRow φ id r w) (hL : φ id g = some L) (hm : r.m ≤ g) (hsz : r.sz = sz) (h1 : len ≤ cap) (h2 : st + cap ≤ L.ext) (h4 : cap ≤ c) (h6 : 0 < c → off = L.base + st * L.sz) :
    ∃ ov : List Value, RelVs φ ((r.es.drop st).take len).flatten ov ∧ ov.length = len * sz ∧ ∀ w' : World, w'.heap = w.heap → (Builtin.firstCells sz len (.slice (some ⟨L.blk, off, none⟩) len c)).run P w' = .ok ov.toArray w' := by
  have hLs : L.sz = r.sz := (hr.gen g L hL).2
  have hfit : st * r.sz + len * r.sz ≤ L.ext * r.sz := by rw [← Nat.add_mul]; exact Nat.mul_le_mul_right _ (by omega)
  obtain ⟨vs, v1, v2, v3⟩ := row_flat hr hL hm hfit
  refine ⟨vs, ?_, by rw [v2, hsz], fun w' hw' => ?_⟩
  · rw [fl_take (fun e he => hr.es e (List.mem_of_mem_drop he)), fl_drop hr.es]; exact v1
  · refine run_firstCells_some (P := P) w' sz len _ _ _ vs (by rw [v2, hsz]) (fun j u hj => ?_)
    have ec : ∀ A, w'.cell? A = w.cell? A := fun A => by simp [World.cell?, hw']
    have hjl := (List.getElem?_eq_some_iff.1 hj).1
    have hlen : 0 < len := by
      rcases Nat.eq_zero_or_pos len with h0 | h0
      · rw [h0, Nat.zero_mul] at v2; omega
      · exact h0
    rw [ec, h6 (by omega), hLs]
    exact v3 j u hj

theorem append_new {sz bytes : Nat} {s : AV} {cs cx : Value} {new : List (List AV)} {nv : List Value} {t1 t2 ty e : TypeId} {zc : Array Value} (H : RelH P B φ h w) (hs : RelV φ s cs) (hsz : 0 < sz) (hzc : zc.size = sz)
    (hne : ∀ x ∈ new, x.length = sz) (hnl : ∀ x ∈ new, allLeaf x = true) (hnv : RelVs φ new.flatten nv)
    (hroom : ∀ base sLen sCap, AppRoom P w t1 t2 ty base sLen sCap new.length sz nv cx)
    (hgrow : ∀ base sLen sCap, (sLen + new.length) * bytes ≤ most → sLen + new.length ≤ most → AppGrow P w t1 t2 ty e base sLen sCap new.length sz zc nv cx)
    (hnil : new.length = 0 → (Builtin.append_ #[t1, t2] ty #[.slice none 0 0, cx]).run P w = .ok (.slice none 0 0) w)
    {nt : Option Nat} (hnt : ∀ u, nt = some u → u = e) (he : appendNew h sz bytes s new nt = some (v, h')) : SimV P B φ h' v w ((Builtin.append_ #[t1, t2] ty #[cs, cx]).run P w) := by
  have hnvl : nv.length = new.length * sz := by rw [← hnv.length, fl_len hne]
  have hflat : allLeaf new.flatten = true := allLeaf_flatten hnl
  have hzl : ∀ n, (Builtin.zeroCells zc n).toList.length = n * sz := fun n => by simp [Builtin.zeroCells, hzc]
  unfold appendNew at he
  split at he
  · cases hs
    split at he
    · cases he
      exact SimV.pure H (hnil rfl) .nilSlc
    · rename_i hnn
      cases hc : (Nat.ble (new.length * bytes) most && Nat.ble new.length most) with
      | false => rw [hc] at he; cases he
      | true =>
        rw [hc, cond_true] at he; cases he
        simp only [Bool.and_eq_true, nble_true] at hc
        have hpos : 0 < new.length := List.length_pos_iff.2 hnn
        have hrun := hgrow none 0 0 (by simpa using hc.1) (by simpa using hc.2) (by omega) [] (fun w' _ => by simp [Builtin.firstCells])
        simp only [Nat.zero_add, List.nil_append] at hrun
        have hge := grown_ge w new.length 0 e
        obtain ⟨φ', p1, p2, p3, p4⟩ := row_newT H.drew hsz hne hnl (vals := nv) (spare := (Builtin.zeroCells zc (grownCap w new.length 0 e - new.length)).toList) hnv (tot := grownCap w new.length 0 e)
          (by rw [hzl, hnvl, ← Nat.add_mul]; congr 1; omega) e nt hnt
        refine ⟨_, _, φ', hrun, ?_, p3, p1, (Gw.drew B w).trans p4⟩
        exact .slc p2 (Nat.le_refl _) (by simp only; omega) (by simp only; omega) hge (fun e => by cases e) (fun _ => by simp)
  · cases hs
    rename_i A
    split at he
    · cases he
      have hnv0 : nv = [] := List.length_eq_zero_iff.1 (by simpa using hnvl)
      subst hnv0
      have hrun := hroom (some A) 0 0 (by simp) _ rfl w (by simp [storeCells])
      exact ⟨_, w, φ, hrun, .emp, H, φ.le_refl, Gw.refl B w⟩
    · rename_i hnn
      cases hc : (Nat.ble (new.length * bytes) most && Nat.ble new.length most) with
      | false => rw [hc] at he; cases he
      | true =>
        rw [hc, cond_true] at he; cases he
        simp only [Bool.and_eq_true, nble_true] at hc
        have hpos : 0 < new.length := List.length_pos_iff.2 hnn
        have hrun := hgrow (some A) 0 0 (by simpa using hc.1) (by simpa using hc.2) (by omega) [] (fun w' _ => by simp [Builtin.firstCells, loadCells, loadCellsFrom])
        simp only [Nat.zero_add, List.nil_append] at hrun
        have hge := grown_ge w new.length 0 e
        obtain ⟨φ', p1, p2, p3, p4⟩ := row_newT H.drew hsz hne hnl (vals := nv) (spare := (Builtin.zeroCells zc (grownCap w new.length 0 e - new.length)).toList) hnv (tot := grownCap w new.length 0 e)
          (by rw [hzl, hnvl, ← Nat.add_mul]; congr 1; omega) e nt hnt
        refine ⟨_, _, φ', hrun, ?_, p3, p1, (Gw.drew B w).trans p4⟩
        exact .slc p2 (Nat.le_refl _) (by simp only; omega) (by simp only; omega) hge (fun e => by cases e) (fun _ => by simp)
  · rename_i id g st len cap ex
    cases hs with
    | slc hL h1 h2 h3 h4 h5 h6 =>
      rename_i c off L
      split at he
      · cases he
        have hnv0 : nv = [] := List.length_eq_zero_iff.1 (by simpa using hnvl)
        subst hnv0
        have hrun := hroom (some ⟨L.blk, off, none⟩) len c (by simp; omega) _ rfl w (by simp [storeCells])
        exact ⟨_, w, φ, hrun, .slc hL h1 h2 h3 h4 h5 h6, H, φ.le_refl, Gw.refl B w⟩
      · rename_i hnn
        have hpos : 0 < new.length := List.length_pos_iff.2 hnn
        split at he
        · cases he
        · rename_i r hget
          have hrow := AHeap.row_some.1 hget
          have hr : RelRow φ id r w := H.obj id _ hrow
          cases hc : (Nat.ble ((len + new.length) * bytes) most && Nat.ble (len + new.length) most && Nat.beq r.sz sz) with
          | false => rw [hc] at he; cases he
          | true =>
            rw [hc, cond_true] at he
            simp only [Bool.and_eq_true, nble_true, nbeq_true] at hc
            obtain ⟨⟨c1, c2⟩, c3⟩ := hc
            have hLs : L.sz = sz := by rw [(hr.gen g L hL).2, c3]
            cases hin : Nat.ble (len + new.length) cap with
            | true =>
              rw [hin, cond_true] at he
              have hin := nble_true.1 hin
              cases hcc : (r.rw && Nat.beq g r.g) with
              | false => rw [hcc] at he; cases he
              | true =>
                rw [hcc, cond_true] at he; cases he
                simp only [Bool.and_eq_true, nbeq_true] at hcc
                obtain ⟨hrw, rfl⟩ := hcc
                obtain ⟨L', hL', hext⟩ := hr.cur
                rw [hL] at hL'; cases hL'
                have hfl : new.flatten.length = new.length * sz := fl_len hne
                have hfit : (st + len) * r.sz + new.flatten.length ≤ r.es.length * r.sz := by
                  rw [hfl, c3, ← Nat.add_mul]; exact Nat.mul_le_mul_right _ (by omega)
                obtain ⟨w', s1, s2, s3⟩ := row_store H hrow hrw hL hnv hflat hfit (es' := lay r.es (st + len) new)
                  (by
                    intro x hx
                    unfold lay at hx
                    rcases List.mem_append.1 hx with hx | hx
                    · rcases List.mem_append.1 hx with hx | hx
                      · exact hr.es x (List.mem_of_mem_take hx)
                      · rw [c3]; exact hne x hx
                    · exact hr.es x (List.mem_of_mem_drop hx))
                  (lay_length _ _ _ (by omega)) (by rw [c3]; exact fl_lay (by rw [← c3]; exact hr.es) hne _)
                  (by
                    intro x hx
                    unfold lay at hx
                    rcases List.mem_append.1 hx with hx | hx
                    · rcases List.mem_append.1 hx with hx | hx
                      · exact hr.leaf x (List.mem_of_mem_take hx)
                      · exact hnl x hx
                    · exact hr.leaf x (List.mem_of_mem_drop hx))
                have hA : (⟨L.blk, off, none⟩ : Addr).add (len * sz) = ⟨L.blk, L.base + (st + len) * r.sz, none⟩ := by
                  rw [Addr.add_lit, h6 (by omega), hLs, c3, Nat.add_mul, Nat.add_assoc]
                have hrun := hroom (some ⟨L.blk, off, none⟩) len c (by omega) _ rfl w' (by rw [hA]; exact s1)
                exact ⟨_, w', φ, hrun, .slc hL (by omega) h2 h3 h4 h5 h6, s2, φ.le_refl, s3⟩
            | false =>
              rw [hin, cond_false] at he
              have hin : ¬ len + new.length ≤ cap := fun h => by rw [nble_true.2 h] at hin; cases hin
              cases ex with
              | true =>
                rw [cond_true] at he
                have hcc := h5 rfl
                subst hcc
                cases hm : Nat.ble r.m g with
                | false => rw [hm] at he; cases he
                | true =>
                  rw [hm, cond_true] at he
                  have hm := nble_true.1 hm
                  cases hl : Nat.beq ((r.es.drop st).take len).length len with
                  | false => simp only [hl] at he; cases he
                  | true =>
                    simp only [hl, cond_true] at he; cases he
                    have hl := nbeq_true.1 hl
                    obtain ⟨ov, o1, o2, o3⟩ := firstCells_row (P := P) hr hL hm c3 h1 h2 h4 h6
                    have hrun := hgrow (some ⟨L.blk, off, none⟩) len c c1 c2 (by omega) ov o3
                    have hge := grown_ge w (len + new.length) c e
                    have hes' : ∀ x ∈ (r.es.drop st).take len ++ new, x.length = sz := by
                      intro x hx
                      rcases List.mem_append.1 hx with hx | hx
                      · rw [← c3]; exact hr.es x (List.mem_of_mem_drop (List.mem_of_mem_take hx))
                      · exact hne x hx
                    have hlf' : ∀ x ∈ (r.es.drop st).take len ++ new, allLeaf x = true := by
                      intro x hx
                      rcases List.mem_append.1 hx with hx | hx
                      · exact hr.leaf x (List.mem_of_mem_drop (List.mem_of_mem_take hx))
                      · exact hnl x hx
                    obtain ⟨φ', p1, p2, p3, p4⟩ := row_newT H.drew hsz hes' hlf' (vals := ov ++ nv) (spare := (Builtin.zeroCells zc (grownCap w (len + new.length) c e - (len + new.length))).toList)
                      (by rw [List.flatten_append]; exact o1.append hnv) (tot := grownCap w (len + new.length) c e)
                      (by rw [hzl, List.length_append, hnvl, o2, ← Nat.add_mul, ← Nat.add_mul]; congr 1; omega) e nt hnt
                    refine ⟨_, _, φ', hrun, ?_, p3, p1, (Gw.drew B w).trans p4⟩
                    exact .slc p2 (Nat.le_refl _) (by simp only [List.length_append, hl]; omega) (by simp only; omega) hge (fun e => by cases e) (fun _ => by simp)
              | false =>
                rw [cond_false] at he
                cases hcc : (r.rw && Nat.beq g r.g && Nat.beq st 0) with
                | false => rw [hcc] at he; cases he
                | true =>
                  rw [hcc, cond_true] at he
                  simp only [Bool.and_eq_true, nbeq_true] at hcc
                  obtain ⟨⟨hrw, rfl⟩, rfl⟩ := hcc
                  obtain ⟨L', hL', hext⟩ := hr.cur
                  rw [hL] at hL'; cases hL'
                  obtain ⟨hbase, bc, bt, hbc, hbs, hbx⟩ := hr.own hrw r.g L hr.mg hL
                  obtain ⟨_, vals, hv, hcv⟩ := hr.cells r.g L hr.mg hL
                  rw [List.take_of_length_le (by omega)] at hv
                  have hvl : vals.length = r.es.length * r.sz := by rw [← hv.length, fl_len hr.es]
                  have hlen : len ≤ r.es.length := by omega
                  have hes' : ∀ x ∈ r.es.take len ++ new, x.length = r.sz := by
                    intro x hx
                    rcases List.mem_append.1 hx with hx | hx
                    · exact hr.es x (List.mem_of_mem_take hx)
                    · rw [c3]; exact hne x hx
                  have hlf' : ∀ x ∈ r.es.take len ++ new, allLeaf x = true := by
                    intro x hx
                    rcases List.mem_append.1 hx with hx | hx
                    · exact hr.leaf x (List.mem_of_mem_take hx)
                    · exact hnl x hx
                  have hesl : (r.es.take len ++ new).length = len + new.length := by
                    rw [List.length_append, List.length_take]; omega
                  have hnewv : RelVs φ (r.es.take len ++ new).flatten (vals.take (len * r.sz) ++ nv) := by
                    rw [List.flatten_append, fl_take hr.es]; exact (hv.take _).append hnv
                  have hoff : 0 < c → off = 0 := fun hc0 => by have := h6 hc0; omega
                  -- both ways give one world; which generations stay
                  have key : ∀ (m' : Nat), m' ≤ r.g + 1 → (∀ g K, m' ≤ g → φ id g = some K → r.m ≤ g ∧ K.ext ≤ len) →
                      SimV P B φ (h.put id (.row { r with es := r.es.take len ++ new, g := r.g + 1, m := m', ty := tyJoin r.ty nt })) (.slc id (r.g + 1) 0 (len + new.length) (len + new.length) false) w
                        ((Builtin.append_ #[t1, t2] ty #[.slice (some ⟨L.blk, off, none⟩) len c, cx]).run P w) := by
                    intro m' hm' hold
                    by_cases hfits : len + new.length ≤ c
                    · -- in place
                      have hsz2 : len * sz + nv.length ≤ bc.size := by
                        rw [hbs, hnvl, hLs, ← Nat.add_mul]; exact Nat.mul_le_mul_right _ (by omega)
                      have hst := run_storeCells_at P L.blk (len * sz) bt nv 0 bc w hbc (by simpa using hsz2) (hnv.leaf hflat)
                      simp only [Nat.add_zero] at hst
                      have hA : (⟨L.blk, off, none⟩ : Addr).add (len * sz) = ⟨L.blk, len * sz, none⟩ := by
                        rw [Addr.add_lit, hoff (by omega), Nat.zero_add]
                      have hrun := hroom (some ⟨L.blk, off, none⟩) len c hfits _ rfl _ (by rw [hA]; exact hst)
                      generalize hc' : (bc.toList.take (len * sz) ++ nv ++ bc.toList.drop (len * sz + nv.length)).toArray = c' at hst hrun
                      have hheap := setRow_heap w L.blk bc c' bt (0, 0) hbc
                      have hcs : c'.size = bc.size := by rw [← hc']; simp; omega
                      have hB : B ≤ L.blk := (H.own id _ r.g L hrow hL).1 hrw
                      have hcell : ∀ (j : Nat) (u : Value), vals[j]? = some u → bc.toList[j]? = some u := by
                        intro j u hj
                        have := hcv j u hj
                        rw [hbase, Nat.zero_add, cell_of_row w L.blk _ bc bt (0, 0) hbc] at this
                        simpa using this
                      have hpre : ∀ (j : Nat) (u : Value), j < len * sz → vals[j]? = some u → c'[j]? = some u := by
                        intro j u hj hu
                        rw [← hc', List.getElem?_toArray, List.append_assoc, List.getElem?_append_left (by simp; omega), List.getElem?_take_of_lt hj]
                        exact hcell j u hu
                      have hmin0 : (vals.take (len * r.sz)).length = len * sz := by
                        rw [List.length_take, hvl, c3, Nat.min_eq_left (Nat.mul_le_mul_right _ hlen)]
                      have hgrown := row_grow (H := H) hrow hrw hes' hlf' hm' (w' := w.setRow L.blk c') (L := ⟨L.blk, 0, r.sz, len + new.length, L.tot⟩) ⟨rfl, hesl.symm, rfl⟩ (.inr ⟨r.g, L, hL, rfl⟩) (by simp)
                        (fun k _ hk => setRow_other w L.blk k c' (fun e => hk r.g L hL e.symm)) (NoDef.of_block hheap (fun ds e => by cases e) (fun k hk => setRow_other w L.blk k c' hk))
                        ⟨_, hnewv, fun j u hj => by
                          rw [cell_setRow_same w L.blk _ bc c' bt (0, 0) hbc]
                          by_cases hjl : j < len * sz
                          · rw [List.getElem?_append_left (by rw [hmin0]; exact hjl), List.getElem?_take_of_lt (by rw [c3]; exact hjl)] at hj
                            exact hpre j u hjl hj
                          · rw [List.getElem?_append_right (by rw [hmin0]; omega), hmin0] at hj
                            have hjn := (List.getElem?_eq_some_iff.1 hj).1
                            rw [← hc', List.getElem?_toArray, List.append_assoc, List.getElem?_append_right (by simp; omega), List.getElem?_append_left (by simp; omega)]
                            rw [List.length_take, Nat.min_eq_left (by simp; omega)]
                            exact hj⟩
                        ⟨c', bt, hheap, by rw [hcs, hbs, hLs, c3], by simp only; omega⟩
                        (fun g K hmg hK => by
                          obtain ⟨a1, a2⟩ := hold g K hmg hK
                          obtain ⟨b1, vs, b2, b3⟩ := hr.cells g K a1 hK
                          obtain ⟨d1, dc, dt, d2, d3, d4⟩ := hr.own hrw g K a1 hK
                          have hKs : K.sz = r.sz := (hr.gen g K hK).2
                          have htk : (r.es.take len ++ new).take K.ext = r.es.take K.ext := by
                            rw [List.take_append_of_le_length (by simp; omega), List.take_take, Nat.min_eq_left a2]
                          have hvsl : vs.length = K.ext * r.sz := by
                            rw [← b2.length, fl_len (sz := r.sz) (fun x hx => hr.es x (List.mem_of_mem_take hx)), List.length_take]; congr 1; omega
                          refine ⟨by omega, ⟨vs, by rw [htk]; exact b2, fun j u hj => ?_⟩, d1, ?_⟩
                          · have hjl := (List.getElem?_eq_some_iff.1 hj).1
                            have hcu := b3 j u hj
                            rw [d1, Nat.zero_add] at hcu ⊢
                            by_cases hbk : K.blk = L.blk
                            · rw [hbk] at hcu ⊢
                              rw [cell_of_row w L.blk _ bc bt (0, 0) hbc] at hcu
                              rw [cell_setRow_same w L.blk _ bc c' bt (0, 0) hbc]
                              have hjs : j < len * sz := by
                                have : K.ext * r.sz ≤ len * sz := by rw [c3]; exact Nat.mul_le_mul_right _ a2
                                omega
                              rw [← hc', List.getElem?_toArray, List.append_assoc, List.getElem?_append_left (by simp; omega), List.getElem?_take_of_lt hjs]
                              simpa using hcu
                            · rw [cell_setRow_other w L.blk c' _ hbk]; exact hcu
                          · by_cases hbk : K.blk = L.blk
                            · refine ⟨c', bt, by rw [hbk]; exact hheap, ?_, d4⟩
                              rw [hbk, hbc] at d2
                              cases d2
                              rw [hcs]; exact d3
                            · exact ⟨dc, dt, (setRow_other w L.blk K.blk c' hbk).trans d2, d3, d4⟩)
                        (ty' := tyJoin r.ty nt) (fun u hu => by
                          obtain ⟨y1, y2⟩ := tyJoin_some hu
                          obtain ⟨c0, f0, hc0⟩ := hr.ty u y1 hrw r.g L hr.mg hL
                          rw [hbc] at hc0; cases hc0
                          refine ⟨⟨_, _, hheap⟩, fun g K hmg hK => ?_⟩
                          obtain ⟨a1, a2⟩ := hold g K hmg hK
                          obtain ⟨ck, fk, hk⟩ := hr.ty _ y1 hrw g K a1 hK
                          by_cases hbk : K.blk = L.blk
                          · rw [hbk]; exact ⟨_, _, hheap⟩
                          · exact ⟨_, _, (setRow_other w L.blk K.blk c' hbk).trans hk⟩)
                      refine ⟨_, _, _, hrun, ?_, hgrown.2, hgrown.1, Gw.of_block hbc hB (fun ds e => by cases e) (fun r e => by cases e) hheap (fun _ _ _ e => by cases e; rfl) (fun _ _ _ e => by cases e; rfl) (fun k hk => setRow_other w L.blk k c' hk) (by simp) rfl rfl rfl⟩
                      exact .slc (L := ⟨L.blk, 0, r.sz, len + new.length, L.tot⟩) (Phi.add_same _ _ _ _) (Nat.le_refl _) (by simp only; omega) (by simp only; omega) hfits (fun e => by cases e) (fun hc0 => by simp [hoff hc0])
                    · -- a new block
                      obtain ⟨ov, o1, o2, o3⟩ := firstCells_row (P := P) hr hL hr.mg c3 h1 h2 h4 h6
                      have hrun := hgrow (some ⟨L.blk, off, none⟩) len c c1 c2 (by omega) ov o3
                      have hge := grown_ge w (len + new.length) c e
                      simp only [List.drop_zero] at o1
                      generalize hgc : grownCap w (len + new.length) c e = gc at hrun hge
                      generalize hzz : (Builtin.zeroCells zc (gc - (len + new.length))).toList = zz at hrun
                      have hzzl : zz.length = (gc - (len + new.length)) * sz := by rw [← hzz]; exact hzl _
                      have hgrown := row_grow (H := H.drew) hrow hrw hes' hlf' hm' (w' := w.drew.alloc (.cells (ov ++ nv ++ zz).toArray e)) (L := ⟨w.heap.size, 0, r.sz, len + new.length, gc⟩) ⟨rfl, hesl.symm, rfl⟩ (.inl ⟨rfl, by simp⟩) (by simp)
                        (fun k hk _ => heap_alloc_old w.drew _ hk) (NoDef.alloc w.drew (fun ds e => by cases e))
                        ⟨ov ++ nv, by rw [List.flatten_append]; exact o1.append hnv, fun j u hj => by
                          have hjl := (List.getElem?_eq_some_iff.1 hj).1
                          have := World.cell?_alloc_new w.drew (ov ++ nv ++ zz).toArray e j
                          rw [show w.drew.heap.size = w.heap.size from rfl] at this
                          rw [this, List.getElem?_toArray, List.getElem?_append_left hjl]
                          exact hj⟩
                        ⟨_, e, heap_alloc_new w.drew _, by simp only [List.size_toArray, List.length_append]; rw [o2, hnvl, hzzl, c3, ← Nat.add_mul, ← Nat.add_mul]; congr 1; omega, hge⟩
                        (fun g K hmg hK => by
                          obtain ⟨a1, a2⟩ := hold g K hmg hK
                          obtain ⟨b1, vs, b2, b3⟩ := hr.cells g K a1 hK
                          obtain ⟨d1, dc, dt, d2, d3, d4⟩ := hr.own hrw g K a1 hK
                          have hlt := H.lt id g K hK
                          have htk : (r.es.take len ++ new).take K.ext = r.es.take K.ext := by
                            rw [List.take_append_of_le_length (by simp; omega), List.take_take, Nat.min_eq_left a2]
                          refine ⟨by omega, ⟨vs, by rw [htk]; exact b2, fun j u hj => ?_⟩, d1, dc, dt, (heap_alloc_old w.drew _ hlt).trans d2, d3, d4⟩
                          exact (cell_of_heap (heap_alloc_old w.drew _ hlt)).trans (b3 j u hj))
                        (ty' := tyJoin r.ty nt) (fun u hu => by
                          obtain ⟨y1, y2⟩ := tyJoin_some hu
                          obtain rfl := hnt u y2
                          refine ⟨⟨_, _, heap_alloc_new w.drew _⟩, fun g K hmg hK => ?_⟩
                          obtain ⟨a1, a2⟩ := hold g K hmg hK
                          obtain ⟨ck, fk, hk⟩ := hr.ty _ y1 hrw g K a1 hK
                          exact ⟨_, _, (heap_alloc_old w.drew _ (H.lt id g K hK)).trans hk⟩)
                      refine ⟨_, _, _, hrun, ?_, hgrown.2, hgrown.1, (Gw.drew B w).trans (Gw.alloc H.drew.base (fun _ _ _ e => by cases e; rfl))⟩
                      exact .slc (L := ⟨w.heap.size, 0, r.sz, len + new.length, gc⟩) (Phi.add_same _ _ _ _) (Nat.le_refl _) (by simp only; omega) (by simp only; omega) hge (fun e => by cases e) (fun _ => by simp)
                  cases hlr : Nat.beq len r.es.length with
                  | true =>
                    rw [hlr, cond_true] at he; cases he
                    have hlr := nbeq_true.1 hlr
                    have := key r.m (Nat.le_succ_of_le hr.mg) (fun g K hm hK => ⟨hm, by rw [hlr]; exact (hr.cells g K hm hK).1⟩)
                    rw [List.take_of_length_le (by omega)] at this
                    exact this
                  | false =>
                    rw [hlr, cond_false] at he; cases he
                    exact key (r.g + 1) (Nat.le_refl _) (fun g K hm hK => absurd (hr.gen g K hK).1 (by omega))
  · cases he


theorem app_sound {t1 t2 ty : TypeId} {x y : Operand} {op : AOp} {N : Nat} {ρ : Regs} {a : Act} (hR : RelR φ N ρ a.tmps) (H : RelH P B φ h w) (hc : compBuiltin P .append [t1, t2] [x, y] = some op) (he : evalA ρ h op = some (v, h')) :
    SimV P B φ h' v w ((Builtin.append_ #[t1, t2] ty #[a.eval x, a.eval y]).run P w) := by
  simp only [compBuiltin] at hc
  split at hc
  · rename_i p q e d hx hy hu hu2
    split at hc
    · rename_i sz bytes z hs hb hz
      cases hcc : (Nat.beq z.cells.length sz && Nat.blt 0 sz) with
      | false => rw [hcc] at hc; cases hc
      | true =>
        rw [hcc, cond_true] at hc
        simp only [Bool.and_eq_true, nbeq_true, nblt_true] at hcc
        obtain ⟨hzl, hsz⟩ := hcc
        obtain ⟨zv, it, z1, z2, z3, z4⟩ := run_zeroT hz w
        obtain ⟨it2, b1, b2, b3⟩ := run_bytesT hb w
        rw [z3] at b3; cases b3
        have hzc : zv.cells.size = sz := by have := (cells_avOf (φ := φ) z2).length; simp only [Array.length_toList] at this; omega
        have main : ∀ (hni : ∀ k, d ≠ .int k) (nt : Option Nat), (∀ u, nt = some u → u = e) → (∃ sv xv, ev ρ p = some sv ∧ ev ρ q = some xv ∧ appendA h sz bytes sv xv nt = some (v, h')) → SimV P B φ h' v w ((Builtin.append_ #[t1, t2] ty #[a.eval x, a.eval y]).run P w) := by
          intro hni nt hnt hop
          obtain ⟨sv, xv, hp, hq, he⟩ := hop
          simp only [appendA] at he
          cases h0 : Nat.beq sz 0 with
          | true => rw [h0] at he; cases he
          | false =>
            rw [h0, cond_false] at he
            cases hsrc : source h sz xv with
            | none => rw [hsrc] at he; cases he
            | some new =>
              rw [hsrc] at he
              simp only at he
              have S := source_sound H (ev_opd hR hy hq) hsrc
              obtain ⟨nv, n1, n2⟩ := S.first new.length (Nat.le_refl _)
              rw [List.take_of_length_le (Nat.le_refl _)] at n1
              refine append_new (zc := zv.cells) H (ev_opd hR hx hp) hsz hzc S.es S.leaf n1 (fun base sLen sCap => app_room hu hs hu2 hni (S.len P) (n2 P w rfl) base sLen sCap)
                (fun base sLen sCap m1 m2 => app_grow hu hs hu2 hni z3 z4 b2 (S.len P) (n2 P) base sLen sCap m1 m2) (fun hl => ?_) hnt he
              have hz : (d matches .int _) = false := by cases d <;> first | rfl | exact absurd rfl (hni _)
              have hln := S.len P w
              rw [hl] at hln
              have hnf := n2 P w rfl
              rw [hl] at hnf
              simp only [Builtin.append_, List.getElem?_toArray, List.getElem?_cons_zero, List.getElem?_cons_succ, Sem.run_bind, run_underlying hu, run_underlying hu2, Result.andThen_ok, run_sizeT hs, Sem.run_pure, hz, Bool.false_eq_true, if_false, hln,
                Nat.add_zero, Nat.le_refl, if_true, Bool.not_false, hnf]
        have two : ∀ {o : AOp} {nt : Option Nat}, (∀ u, nt = some u → u = e) → (∀ k, d ≠ .int k) → evalA ρ h o = some (v, h') → (evalA ρ h o = match ev ρ p, ev ρ q with | some s, some x => appendA h sz bytes s x nt | _, _ => none) → SimV P B φ h' v w ((Builtin.append_ #[t1, t2] ty #[a.eval x, a.eval y]).run P w) := by
          intro o nt hnt hni he heq
          rw [heq] at he
          cases hp : ev ρ p with
          | none => simp [hp] at he
          | some sv =>
            cases hq : ev ρ q with
            | none => simp [hp, hq] at he
            | some xv =>
              rw [hp, hq] at he
              exact main hni nt hnt ⟨sv, xv, hp, hq, he⟩
        split at hc
        · cases hb : (isByteT P e && Nat.beq sz 1 && Nat.beq bytes 1) with
          | true =>
            rw [hb, cond_true] at hc; cases hc
            simp only [Bool.and_eq_true, nbeq_true] at hb
            obtain ⟨⟨_, rfl⟩, rfl⟩ := hb
            exact two (nt := some e) (fun u hu => by cases hu; rfl) (fun k hk => by cases hk) he rfl
          | false =>
            rw [hb, cond_false] at hc; cases hc
            exact two (nt := none) (fun u hu => by cases hu) (fun k hk => by cases hk) he rfl
        · cases hb : (isByteT P e && Nat.beq sz 1 && Nat.beq bytes 1) with
          | true =>
            rw [hb, cond_true] at hc; cases hc
            simp only [Bool.and_eq_true, nbeq_true] at hb
            obtain ⟨⟨_, rfl⟩, rfl⟩ := hb
            exact two (nt := some e) (fun u hu => by cases hu; rfl) (fun k hk => by cases hk) he rfl
          | false =>
            rw [hb, cond_false] at hc; cases hc
            exact two (nt := none) (fun u hu => by cases hu) (fun k hk => by cases hk) he rfl
        · rename_i k
          cases hc
          simp only [evalA] at he
          cases hp : ev ρ p with
          | none => simp [hp] at he
          | some sv =>
            cases hq : ev ρ q with
            | none => simp [hp, hq] at he
            | some xv =>
              rw [hp, hq] at he
              simp only [appzA] at he
              cases hcz : (Nat.blt 0 sz && Nat.beq z.cells.length sz && allLeaf z.cells) with
              | false => rw [hcz] at he; cases he
              | true =>
                rw [hcz, cond_true] at he
                simp only [Bool.and_eq_true, nblt_true, nbeq_true] at hcz
                cases hn : asNat xv with
                | none => rw [hn] at he; cases he
                | some n =>
                  rw [hn] at he
                  simp only at he
                  cases hb2 : (Nat.ble n most && Nat.ble (n * bytes) most) with
                  | false => rw [hb2] at he; cases he
                  | true =>
                    rw [hb2, cond_true, repl_eq] at he
                    simp only [Bool.and_eq_true, nble_true] at hb2
                    obtain ⟨hm1, hm2⟩ := hb2
                    obtain ⟨ki, hki⟩ := asNat_sound (ev_opd hR hy hq) hn
                    have hlen : (List.replicate n z.cells).length = n := List.length_replicate
                    have hnv : RelVs φ (List.replicate n z.cells).flatten (List.replicate n zv.cells.toList).flatten := (cells_avOf z2).replicate n
                    have hzs : (Builtin.zeroCells zv.cells n) = (List.replicate n zv.cells.toList).flatten.toArray := by
                      have := zeroCells_eq (z := zv.cells.toList) (by simp; omega) n
                      simpa using this
                    unfold most at hm1 hm2
                    have hw : IntKind.i64.wrap (n : Int) = n := IntWalk.i64_in _ ⟨by omega, by omega⟩
                    have hz : ((TypeDesc.int k) matches .int _) = true := rfl
                    have hti : ∀ w' : World, (typeInfo e).run P w' = .ok it w' := fun w' => by simp [typeInfo, z3]
                    have hzv : ∀ w' : World, (zeroValue e).run P w' = .ok zv w' := fun w' => by simp [zeroValue, typeInfo, z3, z4]
                    have hl0 : ¬ ((n : Int) < 0) := by omega
                    have hby : ¬ ((n : Int) * (it.bytes : Int) > 2 ^ 48) := by
                      rw [b2]
                      have : (n : Int) * (bytes : Int) = ((n * bytes : Nat) : Int) := by simp
                      rw [this]; omega
                    rw [hki]
                    have hap : ∀ w' : World, (if n * sz = 0 then (Pure.pure #[] : Sem (Array Value)) else do Pure.pure (Builtin.zeroCells (← zeroValue e).cells n)).run P w' = .ok (List.replicate n zv.cells.toList).flatten.toArray w' := by
                      intro w'
                      by_cases hn0 : n * sz = 0
                      · have : n = 0 := by rcases Nat.mul_eq_zero.1 hn0 with h1 | h1 <;> omega
                        subst this
                        simp
                      · rw [if_neg hn0]; simp [hzv, hzs]
                    refine append_new (e := e) (zc := zv.cells) (new := List.replicate n z.cells) (nv := (List.replicate n zv.cells.toList).flatten) H (ev_opd hR hx hp) hsz hzc (fun x hx => by rw [List.eq_of_mem_replicate hx]; exact hzl) (fun x hx => by rw [List.eq_of_mem_replicate hx]; exact hcz.2) hnv ?_ ?_ ?_ (fun u hu => by cases hu) he
                    · intro base sLen sCap hroom A hA w' hst
                      subst hA
                      rw [hlen] at hroom ⊢
                      simp only [Builtin.append_, List.getElem?_toArray, List.getElem?_cons_zero, List.getElem?_cons_succ, Sem.run_bind, run_underlying hu, run_underlying hu2, Result.andThen_ok, run_sizeT hs, Sem.run_pure, asInt, asIntOf, hw, if_true, hl0, if_false, hti, hby, Int.toNat_natCast, hroom,
                        Bool.not_true, Bool.false_eq_true, hap, hst]
                    · intro base sLen sCap m1 m2 hgrow ov hov
                      rw [hlen] at m1 m2 hgrow ⊢
                      unfold most at m1 m2
                      have hns : ¬ (sLen + n ≤ sCap) := by omega
                      have h63 : ¬ ((((sLen + n : Nat) : Int) > IntKind.i64.max) ∧ (True ∨ it.bytes = 0)) := by
                        rintro ⟨h1, _⟩
                        have : IntKind.i64.max = 9223372036854775807 := by rfl
                        rw [this] at h1
                        omega
                      have h48 : ¬ (Builtin.nextslicecap (sLen + n) sCap * it.bytes > 2 ^ 48) := by
                        have := growslice_fits (bytes := it.bytes) hgrow (by rw [b2]; omega)
                        omega
                      have hq2 : (Question.appendCap (sLen + n) sCap e).forced = false := rfl
                      simp only [Builtin.append_, List.getElem?_toArray, List.getElem?_cons_zero, List.getElem?_cons_succ, Sem.run_bind, run_underlying hu, run_underlying hu2, Result.andThen_ok, run_sizeT hs, Sem.run_pure, asInt, asIntOf, hw, if_true, hl0, if_false, hti, hby, Int.toNat_natCast, hns,
                        Bool.not_true, Bool.false_eq_true, h63, h48, choose, Sem.run, hq2, run_askRoom, World.drew_eq, hov w.drew rfl, hap, hzv]
                      simp only [Go.newRow, Sem.run_bind, run_newObj, Result.andThen_ok, Sem.run_pure]
                      congr 1
                      show World.alloc _ _ = World.alloc _ _
                      congr 2
                      apply Array.ext'
                      simp [grownCap, List.append_assoc]
                    · intro hl
                      rw [hlen] at hl
                      subst hl
                      have hw0 : IntKind.i64.wrap ((0 : Nat) : Int) = ((0 : Nat) : Int) := hw
                      simp only [Builtin.append_, List.getElem?_toArray, List.getElem?_cons_zero, List.getElem?_cons_succ, Sem.run_bind, run_underlying hu, run_underlying hu2, Result.andThen_ok, run_sizeT hs, Sem.run_pure, asInt, asIntOf, hw0, if_true, hl0, if_false, hti, hby, Int.toNat_natCast,
                        Nat.add_zero, Nat.le_refl, Bool.not_true, Bool.false_eq_true, hap]
        · cases hc
    · cases hc
  · cases hc

theorem storeRow_sound {sz id g st : Nat} {new : List (List AV)} (H : RelH P B φ h w) (hne : ∀ x ∈ new, x.length = sz) (hnl : ∀ x ∈ new, allLeaf x = true) {nv : List Value} (hnv : RelVs φ new.flatten nv) {L : Loc} (hL : φ id g = some L)
    (he : storeRow h sz id g st new = some h') : ∃ w', (storeCells ⟨L.blk, L.base + st * L.sz, none⟩ nv).run P w = .ok () w' ∧ RelH P B φ h' w' ∧ Gw B w w' ∧ L.sz = sz := by
  unfold storeRow at he
  split at he
  · rename_i r hget
    have hrow := AHeap.row_some.1 hget
    have hr : RelRow φ id r w := H.obj id _ hrow
    cases hc : (r.rw && Nat.beq g r.g && Nat.beq r.sz sz && Nat.ble (st + new.length) r.es.length) with
    | false => rw [hc] at he; cases he
    | true =>
      rw [hc, cond_true] at he; cases he
      simp only [Bool.and_eq_true, nbeq_true, nble_true] at hc
      obtain ⟨⟨⟨hrw, rfl⟩, c3⟩, c4⟩ := hc
      have hLs : L.sz = sz := by rw [(hr.gen _ L hL).2, c3]
      have hfit : st * r.sz + new.flatten.length ≤ r.es.length * r.sz := by
        rw [fl_len hne, c3, ← Nat.add_mul]; exact Nat.mul_le_mul_right _ c4
      obtain ⟨w', s1, s2, s3⟩ := row_store H hrow hrw hL hnv (allLeaf_flatten hnl) hfit (es' := lay r.es st new)
        (by
          intro x hx
          unfold lay at hx
          rcases List.mem_append.1 hx with hx | hx
          · rcases List.mem_append.1 hx with hx | hx
            · exact hr.es x (List.mem_of_mem_take hx)
            · rw [c3]; exact hne x hx
          · exact hr.es x (List.mem_of_mem_drop hx))
        (lay_length _ _ _ c4) (by rw [c3]; exact fl_lay (by rw [← c3]; exact hr.es) hne _)
        (by
          intro x hx
          unfold lay at hx
          rcases List.mem_append.1 hx with hx | hx
          · rcases List.mem_append.1 hx with hx | hx
            · exact hr.leaf x (List.mem_of_mem_take hx)
            · exact hnl x hx
          · exact hr.leaf x (List.mem_of_mem_drop hx))
      exact ⟨w', by rw [hLs, ← c3]; exact s1, s2, s3, hLs⟩
  · cases he

theorem copy_sound {t1 t2 ty e : TypeId} {sz : Nat} {d s : AV} {cd cs : Value} (H : RelH P B φ h w) (hu : P.underlying t1 = some (.slice e)) (hs : sizeT P e = some sz) (hd : RelV φ d cd) (hss : RelV φ s cs) (he : copyA h sz d s = some (v, h')) :
    SimV P B φ h' v w ((Builtin.copy_ #[t1, t2] ty #[cd, cs]).run P w) := by
  unfold copyA at he
  cases h0 : Nat.beq sz 0 with
  | true => rw [h0] at he; cases he
  | false =>
    rw [h0, cond_false] at he
    have hsz := Nat.pos_of_ne_zero (nbeq_false.1 h0)
    split at he
    · cases he
    · rename_i src hsrc
      have S := source_sound H hss hsrc
      split at he
      · cases he; cases hd
        obtain ⟨nv, n1, n2⟩ := S.first 0 (Nat.zero_le _)
        refine SimV.pure H (cv := .int .i64 0) ?_ (.int _ _)
        simp [Builtin.copy_, Sem.run_bind, run_underlying hu, S.len P w, run_sizeT hs, n2 P w rfl, goInt]
      · cases he; cases hd
        obtain ⟨nv, n1, n2⟩ := S.first 0 (Nat.zero_le _)
        refine SimV.pure H (cv := .int .i64 0) ?_ (.int _ _)
        have hnv0 : nv = [] := by
          have := n1.length
          exact List.length_eq_zero_iff.1 (by simpa using this.symm)
        subst hnv0
        simp [Builtin.copy_, Sem.run_bind, run_underlying hu, S.len P w, run_sizeT hs, n2 P w rfl, goInt, storeCells]
      · rename_i id g st len cap ex
        cases hd with
        | slc hL h1 h2 h3 h4 h5 h6 =>
          rename_i c off L
          have htl : (src.take len).length = Nat.min src.length len := by rw [List.length_take]; exact Nat.min_comm _ _
          obtain ⟨nv, n1, n2⟩ := S.first (Nat.min src.length len) (Nat.min_le_left _ _)
          have htk : src.take (Nat.min src.length len) = src.take len := by
            show src.take (min src.length len) = src.take len
            rcases Nat.le_total src.length len with hh | hh
            · rw [Nat.min_eq_left hh, List.take_of_length_le (Nat.le_refl _), List.take_of_length_le hh]
            · rw [Nat.min_eq_right hh]
          rw [htk] at n1
          have hrun : ∀ w', (storeCells ⟨L.blk, off, none⟩ nv).run P w = .ok () w' → (Builtin.copy_ #[t1, t2] ty #[.slice (some ⟨L.blk, off, none⟩) len c, cs]).run P w = .ok (goInt (Nat.min src.length len)) w' := by
            intro w' hst
            simp only [Builtin.copy_, List.getElem?_toArray, List.getElem?_cons_zero, List.getElem?_cons_succ, Sem.run_bind, run_underlying hu, Result.andThen_ok, S.len P w, run_sizeT hs, n2 P w rfl, hst, Sem.run_pure]
          dsimp only at he
          split at he
          · rename_i hnn
            cases he
            have hnv0 : nv = [] := by
              have := n1.length
              rw [hnn] at this
              exact List.length_eq_zero_iff.1 (by simpa using this.symm)
            subst hnv0
            refine SimV.pure H (hrun w (by simp [storeCells])) ?_
            rw [hnn] at htl
            rw [← htl]
            exact .int _ _
          · rename_i hnn
            split at he
            · rename_i h2' hst
              cases he
              have hpos : 0 < (src.take len).length := List.length_pos_iff.2 hnn
              have hlen : 0 < len := by rw [List.length_take] at hpos; omega
              obtain ⟨w', s1, s2, s3, s4⟩ := storeRow_sound H (fun x hx => S.es x (List.mem_of_mem_take hx)) (fun x hx => S.leaf x (List.mem_of_mem_take hx)) n1 hL hst
              rw [← h6 (by omega)] at s1
              refine ⟨_, w', φ, hrun w' s1, ?_, s2, φ.le_refl, s3⟩
              rw [← htl]
              exact .int _ _
            · cases he
      · cases he

theorem clr_sound {t ty e : TypeId} {sz : Nat} {z x : AV} {cx : Value} (H : RelH P B φ h w) (hu : P.underlying t = some (.slice e)) (hs : sizeT P e = some sz) (hz : zeroT P e = some z) (hx : RelV φ x cx) (he : clrA h sz z.cells x = some h') :
    ∃ w', (Builtin.clear_ #[t] ty #[cx]).run P w = .ok (.tuple #[]) w' ∧ RelH P B φ h' w' ∧ Gw B w w' := by
  unfold clrA at he
  split at he
  · cases he; cases hx
    exact ⟨w, by simp [Builtin.clear_, Sem.run_bind, run_underlying hu], H, Gw.refl B w⟩
  · cases he; cases hx
    exact ⟨w, by simp [Builtin.clear_, Sem.run_bind, run_underlying hu], H, Gw.refl B w⟩
  · rename_i id g st len cap ex
    cases hx with
    | slc hL h1 h2 h3 h4 h5 h6 =>
      rename_i c off L
      cases h0 : Nat.beq len 0 with
      | true =>
        rw [h0, cond_true] at he; cases he
        have := nbeq_true.1 h0; subst this
        exact ⟨w, by simp [Builtin.clear_, Sem.run_bind, run_underlying hu], H, Gw.refl B w⟩
      | false =>
        rw [h0, cond_false] at he
        have hpos := nbeq_false.1 h0
        cases hc : (Nat.beq z.cells.length sz && allLeaf z.cells && Nat.blt 0 sz) with
        | false => rw [hc] at he; cases he
        | true =>
          rw [hc, cond_true, repl_eq] at he
          simp only [Bool.and_eq_true, nbeq_true, nblt_true] at hc
          obtain ⟨⟨c1, c2⟩, c3⟩ := hc
          obtain ⟨zv, it, z1, z2, z3, z4⟩ := run_zeroT hz w
          have hzc : zv.cells.size = sz := by have := (cells_avOf (φ := φ) z2).length; simp only [Array.length_toList] at this; omega
          obtain ⟨w', s1, s2, s3, s4⟩ := storeRow_sound H (fun x hx => by rw [List.eq_of_mem_replicate hx]; exact c1) (fun x hx => by rw [List.eq_of_mem_replicate hx]; exact c2) ((cells_avOf z2).replicate len) hL he
          rw [← h6 (by omega)] at s1
          refine ⟨w', ?_, s2, s3⟩
          have hzs : (Builtin.zeroCells zv.cells len) = (List.replicate len zv.cells.toList).flatten.toArray := by
            have := zeroCells_eq (z := zv.cells.toList) (by simp; omega) len
            simpa using this
          obtain ⟨k, rfl⟩ : ∃ k, len = k + 1 := ⟨len - 1, by omega⟩
          simp [Builtin.clear_, Sem.run_bind, run_underlying hu, z1, hzs, s1]
  · cases he

theorem RelEs.length {l : List (AV × AV × Nat)} {m : List MapEntry} (hh : RelEs φ l m) : l.length = m.length := by
  induction hh with
  | nil => rfl
  | cons _ _ _ _ ih => simp [ih]

theorem run_getObj_map {r : Nat} {cs : Array MapEntry} {clock : Nat} (hh : w.heap[r]? = some (.map cs clock)) : (getObj r).run P w = .ok (.map cs clock) w := by
  unfold getObj
  simp only [Sem.run, hh]

theorem len_sound {t ty : TypeId} {k : Nat} {x v : AV} {cx : Value} {d : TypeDesc} (H : RelH P B φ h w) (hu : P.underlying t = some d) (hd : (k = 0 ∧ d = .string) ∨ (k = 1 ∧ ∃ e, d = .slice e) ∨ (k = 2 ∧ ∃ a e, d = .map a e)) (hx : RelV φ x cx)
    (he : lenA h k x = some v) : ∃ cv, (Builtin.len_ #[t] ty #[cx]).run P w = .ok cv w ∧ RelV φ v cv := by
  rcases hd with ⟨rfl, rfl⟩ | ⟨rfl, e, rfl⟩ | ⟨rfl, a, e, rfl⟩
  · cases x <;> simp only [lenA] at he <;> try (cases he; done)
    cases he
    cases hx with
    | str hs =>
      rename_i s b
      exact ⟨goInt b.size, by simp [Builtin.len_, Sem.run_bind, run_underlying hu], by rw [str_size hs]; exact .int _ _⟩
  · cases x <;> simp only [lenA] at he <;> try (cases he; done)
    · cases he; cases hx
      exact ⟨goInt _, by simp [Builtin.len_, Sem.run_bind, run_underlying hu], .int _ _⟩
    · cases he; cases hx
      exact ⟨goInt 0, by simp [Builtin.len_, Sem.run_bind, run_underlying hu], .int _ _⟩
    · cases he; cases hx
      exact ⟨goInt 0, by simp [Builtin.len_, Sem.run_bind, run_underlying hu], .int _ _⟩
  · cases x <;> simp only [lenA] at he <;> try (cases he; done)
    · rename_i id
      split at he
      · rename_i es clock hget
        cases he
        cases hx with
        | map hL =>
          obtain ⟨L', cs, l1, l2, l3⟩ := H.obj id _ hget
          rw [hL] at l1; cases l1
          refine ⟨goInt cs.size, ?_, ?_⟩
          · simp only [Builtin.len_, List.getElem?_toArray, List.getElem?_cons_zero, Sem.run_bind, run_underlying hu, Result.andThen_ok, run_getObj_map l2, Sem.run_pure]
          · have := l3.length
            simp only [Array.length_toList] at this
            rw [← this]
            exact .int _ _
      · rename_i es clock hget
        cases he
        cases hx with
        | map hL =>
          obtain ⟨L', cs, l1, l2, l3⟩ := H.obj id _ hget
          rw [hL] at l1; cases l1
          refine ⟨goInt cs.size, ?_, ?_⟩
          · simp only [Builtin.len_, List.getElem?_toArray, List.getElem?_cons_zero, Sem.run_bind, run_underlying hu, Result.andThen_ok, run_getObj_map l2, Sem.run_pure]
          · have := l3.length
            simp only [Array.length_toList] at this
            rw [← this]
            exact .int _ _
      · cases he
    · cases he; cases hx
      exact ⟨goInt 0, by simp [Builtin.len_, Sem.run_bind, run_underlying hu], .int _ _⟩

theorem foldl_push : ∀ (bs : List Nat) (r : ByteArray), (∀ b ∈ bs, b < 256) → (bs.foldl (fun r n => r.push (UInt8.ofNat n)) r).data.toList.map UInt8.toNat = r.data.toList.map UInt8.toNat ++ bs
  | [], r, _ => by simp
  | b :: bs, r, hb => by
    rw [List.foldl_cons, foldl_push bs _ (fun x hx => hb x (by simp [hx]))]
    have : b < 256 := hb b (by simp)
    simp [ByteArray.push, UInt8.toNat_ofNat', Nat.mod_eq_of_lt this]

theorem bytesOf_sound : ∀ {l : List (List AV)} {s : List Nat} {nv : List Value}, bytesOf l = some s → RelVs φ l.flatten nv → nv = (s.map fun n : Nat => (n : Int)).map (Value.int .u8) ∧ ∀ b ∈ s, b < 256
  | [], s, nv, hb, hv => by simp [bytesOf] at hb; subst hb; simp at hv; cases hv; simp
  | e :: l, s, nv, hb, hv => by
    unfold bytesOf at hb
    split at hb
    · rename_i heq; cases heq
    · rename_i n l' heq
      cases heq
      split at hb
      · rename_i r hr
        cases hc : Nat.blt n 256 with
        | false => rw [hc] at hb; cases hb
        | true =>
          rw [hc, cond_true] at hb; cases hb
          simp only [List.flatten_cons, List.singleton_append] at hv
          cases hv with
          | cons h1 h2 =>
            obtain ⟨e1, e2⟩ := bytesOf_sound hr h2
            cases h1
            refine ⟨by rw [e1]; simp, ?_⟩
            intro b hbm
            rcases List.mem_cons.1 hbm with rfl | hbm
            · exact nblt_true.1 hc
            · exact e2 b hbm
      · cases hb
    · cases hb

theorem b2s_sound {t1 t2 e : TypeId} {x v : AV} {cx : Value} (H : RelH P B φ h w) (hs : P.underlying t1 = some (.slice e)) (hd : P.underlying t2 = some .string) (hu : P.underlying e = some (.int .u8)) (hx : RelV φ x cx) (he : b2sA h x = some v) :
    ∃ cv, (convert t1 t2 cx).run P w = .ok cv w ∧ RelV φ v cv := by
  unfold b2sA at he
  split at he
  · cases he; cases hx
    exact ⟨.string .empty, by simp [convert, Sem.run_bind, run_underlying hs, run_underlying hd, run_underlying hu, Conv.bytesToString], .str (by rfl)⟩
  · cases he; cases hx
    exact ⟨.string .empty, by simp [convert, Sem.run_bind, run_underlying hs, run_underlying hd, run_underlying hu, Conv.bytesToString, loadCells, loadCellsFrom], .str (by rfl)⟩
  · rename_i id g st len cap ex
    split at he
    · rename_i l hsrc
      split at he
      · rename_i s hb
        cases he
        have S := source_sound H hx hsrc
        obtain ⟨nv, n1, n2⟩ := S.first l.length (Nat.le_refl _)
        rw [List.take_of_length_le (Nat.le_refl _)] at n1
        obtain ⟨e1, e2⟩ := bytesOf_sound hb n1
        cases hx with
        | slc hL h1 h2 h3 h4 h5 h6 =>
          rename_i c off L
          have hln := S.len P w
          have hlen : l.length = len := by
            simp [Builtin.lenOf] at hln
            exact hln.symm
          have hf := n2 P w rfl
          rw [hlen] at hf
          simp only [Builtin.firstCells, Nat.mul_one] at hf
          rw [e1] at hf
          refine ⟨_, (run_convert_bytes_string w t1 t2 e _ _ _ hs hu hd).trans (run_bytesToString w _ len c _ hf), .str ?_⟩
          have hfold : ∀ (bs : List Nat) (r : ByteArray), (bs.map fun n : Nat => (n : Int)).foldl (fun r n => r.push (UInt8.ofNat n.toNat)) r = bs.foldl (fun r n => r.push (UInt8.ofNat n)) r := by
            intro bs
            induction bs with
            | nil => intro r; rfl
            | cons b bs ih => intro r; simp only [List.map_cons, List.foldl_cons, Int.toNat_natCast, ih]
          rw [hfold, foldl_push _ _ e2]
          simp
      · cases he
    · cases he
  · cases he

theorem mksl_fill {t e : TypeId} {sz bytes : Nat} {z l c : AV} {cl cc : Value} {hp : AHeap} {ob : AObj} (H : RelH P B φ h w) (hu : P.underlying t = some (.slice e)) (hs : sizeT P e = some sz) (hb : bytesT P e = some bytes) (hz : zeroT P e = some z) (hl : RelV φ l cl) (hc : RelV φ c cc)
    (he : mkslA hp sz bytes z.cells l c = some (v, hp.push ob)) (hg : B.gh hp.sz = some ob) : SimV P (B.del hp.sz) φ h v w ((Instr.makeSlice t cl cc).run P w) := by
  unfold mkslA at he
  split at he
  · rename_i ln cn e1 e2
    cases hcnd : (Nat.ble ln cn && Nat.ble (cn * bytes) most && Nat.ble cn most && Nat.beq z.cells.length sz && Nat.blt 0 sz && allLeaf z.cells) with
    | false => rw [hcnd] at he; cases he
    | true =>
      rw [hcnd, cond_true, repl_eq] at he
      simp only [Option.some.injEq, Prod.mk.injEq] at he
      obtain ⟨rfl, he⟩ := he
      have hob := push_inj he
      subst hob
      simp only [Bool.and_eq_true, nble_true, nbeq_true, nblt_true] at hcnd
      obtain ⟨⟨⟨⟨⟨c1, c2⟩, c3⟩, c4⟩, c5⟩, c6⟩ := hcnd
      unfold most at c2 c3
      obtain ⟨kl, rfl⟩ := asNat_sound hl e1
      obtain ⟨kc, rfl⟩ := asNat_sound hc e2
      obtain ⟨zv, it, z1, z2, z3, z4⟩ := run_zeroT hz w
      obtain ⟨it2, b1, b2, b3⟩ := run_bytesT hb w
      have hzc : zv.cells.size = sz := by have := (cells_avOf (φ := φ) z2).length; simp only [Array.length_toList] at this; omega
      have hrep : ∀ x ∈ List.replicate cn z.cells, x.length = sz := fun x hx => by rw [List.eq_of_mem_replicate hx]; exact c4
      obtain ⟨φ', p1, p2, p3, p4⟩ := row_fillT H c5 hrep (fun x hx => by rw [List.eq_of_mem_replicate hx]; exact c6) (vals := (List.replicate cn zv.cells.toList).flatten) (spare := []) ((cells_avOf z2).replicate cn) (tot := cn)
        (by rw [fl_len (sz := sz) (fun x hx => by rw [List.eq_of_mem_replicate hx]; simpa using hzc)]; simp) e none (fun _ e => by cases e) hg
      refine ⟨.slice (some ⟨w.heap.size, 0, none⟩) ln cn, _, φ', ?_, ?_, p3, p1, p4⟩
      · have hw1 : IntKind.i64.wrap (ln : Int) = ln := IntWalk.i64_in _ ⟨by omega, by omega⟩
        have hw2 : IntKind.i64.wrap (cn : Int) = cn := IntWalk.i64_in _ ⟨by omega, by omega⟩
        have ht : (((cn : Int) < 0) || ((it2.bytes : Int) * (cn : Int) > 2 ^ 48)) = false := by
          rw [b2]
          have e3 : (bytes : Int) * (cn : Int) = ((cn * bytes : Nat) : Int) := by rw [Nat.mul_comm]; simp
          rw [e3]
          simp only [Bool.or_eq_false_iff, decide_eq_false_iff_not]
          constructor <;> omega
        have hcond : ((((cn : Int) < 0) || ((it2.bytes : Int) * (cn : Int) > 2 ^ 48)) || ((ln : Int) < 0) || ((ln : Int) > (cn : Int))) = false := by
          rw [ht]
          simp only [Bool.false_or, Bool.or_eq_false_iff, decide_eq_false_iff_not]
          constructor <;> omega
        have hzz : (Array.range (cn * sz)).map (zv.cells[· % zv.cells.size]!) = (List.replicate cn zv.cells.toList).flatten.toArray := by rw [← hzc]; exact zero_cells (by omega) cn
        simp only [Instr.makeSlice, Sem.run_bind, run_underlying hu, Result.andThen_ok, asInt, asIntOf, Sem.run_pure, b1, hw1, hw2, hcond, Bool.false_eq_true, if_false, run_askRoom, run_sizeT hs, Int.toNat_natCast]
        by_cases hn : cn * sz = 0
        · have hn0 : cn = 0 := by rcases Nat.mul_eq_zero.1 hn with h0 | h0 <;> omega
          subst hn0
          have e0 : ∀ f : Nat → Value, Array.map f (Array.range 0) = #[] := fun f => by simp
          simp [e0, Go.newRow]
        · rw [if_neg hn]
          simp only [Sem.run_bind, z1, Result.andThen_ok, Sem.run_pure, hzz]
          simp [Go.newRow]
      · exact .slc p2 c1 (by simp only [List.length_replicate]; omega) (by simp only; omega) (Nat.le_refl _) (fun _ => rfl) (fun _ => by simp)
  · cases he

theorem mkslA_push {sz bytes : Nat} {z : List AV} {l c : AV} (he : mkslA h sz bytes z l c = some (v, h')) : ∃ ob, h' = h.push ob ∧ ob.own = true := by
  unfold mkslA at he
  split at he
  · rename_i ln cn e1 e2
    cases hcnd : (Nat.ble ln cn && Nat.ble (cn * bytes) most && Nat.ble cn most && Nat.beq z.length sz && Nat.blt 0 sz && allLeaf z) with
    | false => rw [hcnd] at he; cases he
    | true => rw [hcnd, cond_true] at he; cases he; exact ⟨_, rfl, rfl⟩
  · cases he

theorem mksl_sound {t e : TypeId} {sz bytes : Nat} {z l c : AV} {cl cc : Value} (H : RelH P B φ h w) (hu : P.underlying t = some (.slice e)) (hs : sizeT P e = some sz) (hb : bytesT P e = some bytes) (hz : zeroT P e = some z) (hl : RelV φ l cl) (hc : RelV φ c cc)
    (he : mkslA h sz bytes z.cells l c = some (v, h')) : SimV P B φ h' v w ((Instr.makeSlice t cl cc).run P w) := by
  obtain ⟨ob, rfl, ho⟩ := mkslA_push he
  have := mksl_fill (H.pushGhost ob ho) hu hs hb hz hl hc he (Base.add_same _ _ _)
  rwa [Base.del_add H.noGhost] at this

end
end Go.Ab
