/-
  Types that are noted; unsafe pointers; the bytes of a slice as a string.
-/
import Derived.Test.YtgmdelacokkenaaGreatDoorAbOps5
import Derived.Lib.Builder
import Derived.Lib.UnsafeStr
namespace Go.Ab
set_option linter.unusedSimpArgs false
set_option linter.unusedVariables false

section
variable {P : Program} {B : Base} {φ : Phi} {h h' : AHeap} {w : World} {v : AV}

theorem box_fillT {n id : Nat} {x : AV} {cx : Value} {t : TypeId} (H : RelH P B φ h w) (hx : RelV φ x cx) (hc : (Nat.beq x.cells.length n && allLeaf x.cells && Nat.blt 0 n) = true) (hg : B.gh id = some (.row { es := [x.cells], sz := n, g := 0, m := 0, rw := true, ty := some t })) :
    SimV P (B.del id) φ h (.ptr id 0 0 0) w ((Instr.box t cx).run P w) := by
  simp only [Bool.and_eq_true, nbeq_true, nblt_true] at hc
  obtain ⟨⟨c1, c2⟩, c3⟩ := hc
  have hcells := hx.cells
  obtain ⟨φ', h1, h2, h3, h4⟩ := row_fillT H (es := [x.cells]) c3 (by intro e he; simp at he; subst he; exact c1) (by intro e he; simp at he; subst he; exact c2) (vals := cx.cells.toList) (spare := []) (by simpa using hcells) (tot := 1)
    (by simp; rw [← c1, hcells.length]; simp) t (some t) (fun _ e => by cases e; rfl) hg
  refine ⟨.pointer (some ⟨w.heap.size, 0, none⟩), _, φ', ?_, ?_, h3, h1, h4⟩
  · simp [Instr.box, newVar, newRow, Go.newRow]
  · have := RelV.ptr (φ := φ') (i := 0) (o := 0) h2 (by simp)
    simpa using this

theorem allot_fill {z : List AV} {t : TypeId} {id : Nat} (H : RelH P B φ h w) {za : AV} (hz : zeroT P t = some za) (hzc : za.cells = z) (hc : (Nat.blt 0 z.length && allLeaf z) = true) (hg : B.gh id = some (.row { es := [z], sz := z.length, g := 0, m := 0, rw := true, ty := some t })) :
    SimV P (B.del id) φ h (.ptr id 0 0 0) w ((Instr.alloc t true (.tuple #[])).run P w) := by
  obtain ⟨zv, i, h1, h2, h3, h4⟩ := run_zeroT hz w
  subst hzc
  obtain ⟨cv, w', φ', a, b⟩ := box_fillT (t := t) (n := za.cells.length) H (relV_avOf h2) (by simp only [Bool.and_eq_true] at hc ⊢; exact ⟨⟨nbeq_true.2 rfl, hc.2⟩, hc.1⟩) hg
  refine ⟨cv, w', φ', ?_, b⟩
  simp [Instr.alloc, h1]
  simpa [Instr.box] using a

theorem box_soundT {n : Nat} {x v : AV} {cx : Value} {t : TypeId} (H : RelH P B φ h w) (hx : RelV φ x cx) (hc : (Nat.beq x.cells.length n && allLeaf x.cells && Nat.blt 0 n) = true) (he : some (AV.ptr h.sz 0 0 0, newRow h [x.cells] n (some t)) = some (v, h')) : SimV P B φ h' v w ((Instr.box t cx).run P w) := by
  cases he
  simp only [Bool.and_eq_true, nbeq_true, nblt_true] at hc
  obtain ⟨⟨c1, c2⟩, c3⟩ := hc
  have hcells := hx.cells
  obtain ⟨φ', h1, h2, h3, h4⟩ := row_newT H (es := [x.cells]) c3 (by intro e he; simp at he; subst he; exact c1) (by intro e he; simp at he; subst he; exact c2) (vals := cx.cells.toList) (spare := []) (by simpa using hcells) (tot := 1)
    (by simp; rw [← c1, hcells.length]; simp) t (some t) (fun e he => by cases he; rfl)
  refine ⟨.pointer (some ⟨w.heap.size, 0, none⟩), _, φ', ?_, ?_, h3, h1, h4⟩
  · simp [Instr.box, newVar, newRow, Go.newRow]
  · have := RelV.ptr (φ := φ') (i := 0) (o := 0) h2 (by simp)
    simpa using this

theorem noteT_or (P : Program) (t : TypeId) : noteT P t = none ∨ noteT P t = some t := by
  unfold noteT
  cases zeroT P t with
  | none => exact .inl rfl
  | some z => cases hb : isNoted z.cells with
    | true => exact .inr (by simp only [hb, cond_true])
    | false => exact .inl (by simp only [hb, cond_false])

theorem box_soundN {n : Nat} {x v : AV} {cx : Value} {t : TypeId} (H : RelH P B φ h w) (hx : RelV φ x cx) (he : boxA h (noteT P t) n x = some (v, h')) : SimV P B φ h' v w ((Instr.box t cx).run P w) := by
  rcases noteT_or P t with hn | hn
  · rw [hn] at he; exact box_sound H hx he
  · rw [hn] at he
    unfold boxA at he
    cases hc : (Nat.beq x.cells.length n && allLeaf x.cells && Nat.blt 0 n) with
    | false => rw [hc] at he; cases he
    | true => rw [hc, cond_true] at he; exact box_soundT H hx hc he

theorem box_fillN {n id : Nat} {x : AV} {cx : Value} {t : TypeId} (H : RelH P B φ h w) (hx : RelV φ x cx) (hc : (Nat.beq x.cells.length n && allLeaf x.cells && Nat.blt 0 n) = true) (hg : B.gh id = some (.row { es := [x.cells], sz := n, g := 0, m := 0, rw := true, ty := noteT P t })) :
    SimV P (B.del id) φ h (.ptr id 0 0 0) w ((Instr.box t cx).run P w) := by
  rcases noteT_or P t with hn | hn
  · rw [hn] at hg; exact box_fill H hx hc hg
  · rw [hn] at hg; exact box_fillT H hx hc hg

theorem allot_sound {z : List AV} {v : AV} {t : TypeId} (H : RelH P B φ h w) {za : AV} (hz : zeroT P t = some za) (hzc : za.cells = z) (he : (bif Nat.blt 0 z.length && allLeaf z then some (AV.ptr h.sz 0 0 0, newRow h [z] z.length (some t)) else none) = some (v, h')) :
    SimV P B φ h' v w ((Instr.alloc t true (.tuple #[])).run P w) := by
  obtain ⟨zv, i, h1, h2, h3, h4⟩ := run_zeroT hz w
  cases hb : (Nat.blt 0 z.length && allLeaf z) with
  | false => rw [hb] at he; cases he
  | true =>
    rw [hb, cond_true] at he
    subst hzc
    obtain ⟨cv, w', φ', a, b⟩ := box_soundT (t := t) H (relV_avOf h2) (by simp [nbeq_true.2 rfl]; simp only [Bool.and_eq_true, nblt_true] at hb; exact ⟨hb.2, hb.1⟩) he
    refine ⟨cv, w', φ', ?_, b⟩
    simp [Instr.alloc, h1]
    simpa [Instr.box] using a

/-- A pointer into a row of one's own: where it points. -/
theorem own_ptr {id g i o : Nat} {r : Row} (H : RelH P B φ h w) (hr : h.row id = some r) (hrw : r.rw = true) (hg : g = r.g) {L : Loc} (hL : φ id g = some L) :
    L.base = 0 ∧ L.sz = r.sz ∧ L.ext = r.es.length ∧ ∃ c t, w.heap[L.blk]? = some (.cells c t (0, 0)) ∧ c.size = L.tot * L.sz ∧ L.ext ≤ L.tot := by
  subst hg
  have hrow : RelRow φ id r w := H.obj id _ (AHeap.row_some.1 hr)
  obtain ⟨hb, c, t, h1, h2, h3⟩ := hrow.own hrw r.g L hrow.mg hL
  obtain ⟨L', hL', hext⟩ := hrow.cur
  rw [hL] at hL'; cases hL'
  exact ⟨hb, (hrow.gen _ _ hL).2, hext, c, t, h1, h2, h3⟩

theorem uto_sound {s d t : TypeId} {n : Nat} {x v : AV} {cx : Value} (H : RelH P B φ h w) (hs : P.underlying s = some (.pointer t)) (hd : P.underlying d = some .unsafePointer) (hz : sizeT P t = some (n + 1)) (hx : RelV φ x cx) (he : utoA h x = some v) :
    ∃ cv, (convert s d cx).run P w = .ok cv w ∧ RelV φ v cv := by
  unfold utoA at he
  split at he
  · cases he; cases hx
    exact ⟨.pointer none, by simp [convert, run_underlying hs, run_underlying hd, Conv.unsafePointer], .nilPtr⟩
  · rename_i id g i o
    split at he
    · rename_i r hr
      cases hb : (r.rw && Nat.ble r.m g && Nat.beq g r.g && Nat.blt i r.es.length && Nat.blt o r.sz) with
      | false => rw [hb] at he; cases he
      | true =>
        rw [hb, cond_true] at he; cases he
        simp only [Bool.and_eq_true, nble_true, nbeq_true, nblt_true] at hb
        obtain ⟨⟨⟨⟨h1, h2⟩, h3⟩, h4⟩, h5⟩ := hb
        cases hx with
        | ptr hL hi =>
          rename_i L
          obtain ⟨q1, q2, q3, c, u, q4, q5, q6⟩ := own_ptr (i := i) (o := o) H hr h1 h3 hL
          obtain ⟨j, hj, hjs⟩ : ∃ j, P.info? t = some j ∧ j.size = n + 1 := by
            unfold sizeT at hz
            cases hh : P.info? t with
            | none => rw [hh] at hz; cases hz
            | some j => rw [hh] at hz; simp at hz; exact ⟨j, rfl, hz⟩
          refine ⟨_, Lib.run_to_unsafe w ⟨L.blk, L.base + i * L.sz + o, none⟩ hs hd hj (by omega) (e := u) (cells := c.size) ?_ ?_, .ptr hL hi⟩
          · simp only [World.shape?, q4]
          · show L.base + i * L.sz + o < c.size
            rw [q1, q5, q2]
            have : (i + 1) * r.sz ≤ L.tot * r.sz := Nat.mul_le_mul_right _ (by omega)
            rw [Nat.add_mul] at this
            omega
    · cases he
  · cases he

theorem liesAt_self {t : TypeId} {n count : Nat} (hs : selfLaid P t = true) (hn : P.cellsOf t = n + 1) (hc : 1 ≤ count) : liesAt P P.depth t count 0 t 1 = true := by
  unfold selfLaid at hs
  simp only [Bool.and_eq_true, nblt_true] at hs
  obtain ⟨d, hd⟩ : ∃ d, P.depth = d + 1 := ⟨P.depth - 1, by omega⟩
  have h2 := hs.2
  generalize hq : P.depth = q at *
  subst hd
  rw [liesAt, hq]
  rw [rowAt]
  simp only [hn, Nat.succ_ne_zero, if_false, Nat.zero_div, Nat.zero_mod, Nat.zero_add, h2, Bool.and_true]
  simp [hc]

theorem cellsOf_size {t : TypeId} {n : Nat} (hz : sizeT P t = some n) : P.cellsOf t = n := by
  unfold sizeT at hz
  cases hh : P.info? t with
  | none => rw [hh] at hz; cases hz
  | some j =>
    rw [hh] at hz
    simp at hz
    simp [Program.cellsOf, hh, hz]

theorem heldIn_mem {u s o : Nat} : ∀ {us : List (Nat × Nat × Nat)}, heldIn us u s o = true → (u, s, o) ∈ us
  | [], h => by simp [heldIn] at h
  | (a, b, c) :: l, h => by
    unfold heldIn at h
    cases hb : (Nat.beq a u && Nat.beq b s && Nat.beq c o) with
    | true =>
      simp only [Bool.and_eq_true, nbeq_true] at hb
      obtain ⟨⟨rfl, rfl⟩, rfl⟩ := hb
      exact List.mem_cons_self
    | false => rw [hb, cond_false] at h; exact List.mem_cons_of_mem _ (heldIn_mem h)

theorem liesAt_held {u t : TypeId} {m o count n : Nat} (hd : 3 ≤ P.depth) (hs : selfLaid P t = true) (hn : P.cellsOf t = n + 1) (h : heldAt P t (u, m, o) = true) (hc : 1 ≤ count) : P.cellsOf u = m ∧ liesAt P P.depth u count o t 1 = true := by
  unfold heldAt at h
  simp only at h
  split at h
  · rename_i fs hu
    simp only [Bool.and_eq_true, nblt_true, Bool.not_eq_true'] at h
    obtain ⟨⟨⟨h1, h2⟩, h3⟩, h4⟩ := h
    obtain ⟨f, hf, h5⟩ := List.any_eq_true.1 h4
    simp only [Bool.and_eq_true, nbeq_true] at h5
    obtain ⟨rfl, rfl⟩ := h5
    have hm : P.cellsOf u = m := by
      split at h1
      · rename_i k hk
        rw [nbeq_true] at h1
        rw [cellsOf_size hk, h1]
      · cases h1
    refine ⟨hm, ?_⟩
    unfold selfLaid at hs
    simp only [Bool.and_eq_true, nblt_true] at hs
    have h6 := hs.2
    obtain ⟨d, hd⟩ : ∃ d, P.depth = d + 3 := ⟨P.depth - 3, by omega⟩
    generalize hq : P.depth = q at *
    subst hd
    rw [liesAt, hq]
    have h7 : rowAt P (fun x => sameLayout P (d + 3) x f.type) (d + 3) u count f.offset 1 = true := by
      rw [rowAt]
      have h8 : f.offset / P.cellsOf u = 0 := Nat.div_eq_of_lt (by omega)
      have h9 : f.offset % P.cellsOf u = f.offset := Nat.mod_eq_of_lt (by omega)
      have ha : P.cellsOf u ≠ 0 := by omega
      have hr : rowAt P (fun x => sameLayout P (d + 3) x f.type) (d + 2) f.type 1 0 1 = true := by
        rw [rowAt]
        simp [hn, h6]
      have hb : (fs.any fun g => decide (g.offset ≤ f.offset) && decide (f.offset < g.offset + P.cellsOf g.type) && rowAt P (fun x => sameLayout P (d + 3) x f.type) (d + 2) g.type 1 (f.offset - g.offset) 1) = true := by
        rw [Array.any_eq_true']
        refine ⟨f, Array.mem_toList_iff.1 hf, ?_⟩
        have : f.offset < f.offset + P.cellsOf f.type := by omega
        rw [Nat.sub_self, hr]
        simp [this]
      simp only [ha, if_false, h8, h9, hu, h2, hb, Bool.not_false, Bool.true_and, Bool.and_true]
      simp
      omega
    rw [h7, Bool.true_or]
  · cases h

theorem ufr_sound {s d t : TypeId} {n : Nat} {us : List (Nat × Nat × Nat)} {x v : AV} {cx : Value} (H : RelH P B φ h w) (hs : P.underlying s = some .unsafePointer) (hd : P.underlying d = some (.pointer t)) (hz : sizeT P t = some (n + 1)) (hl : selfLaid P t = true) (hus : ∀ x ∈ us, heldAt P t x = true) (hx : RelV φ x cx) (he : ufrA h t (n + 1) us x = some v) :
    ∃ cv, (convert s d cx).run P w = .ok cv w ∧ RelV φ v cv := by
  unfold ufrA at he
  split at he
  · cases he; cases hx
    exact ⟨.pointer none, by simp [convert, run_underlying hs, run_underlying hd, Conv.unsafePointer], .nilPtr⟩
  · rename_i id g i o
    split at he
    · rename_i r hr
      split at he
      · rename_i u hu
        cases hb : (r.rw && Nat.ble r.m g && Nat.beq g r.g && Nat.beq i 0 && Nat.blt 0 r.es.length && ((Nat.beq u t && Nat.beq o 0 && Nat.beq r.sz (n + 1)) || heldIn us u r.sz o)) with
        | false => rw [hb] at he; cases he
        | true =>
          rw [hb, cond_true] at he; cases he
          simp only [Bool.and_eq_true, Bool.or_eq_true, nble_true, nbeq_true, nblt_true] at hb
          obtain ⟨⟨⟨⟨⟨h1, h2⟩, h3⟩, rfl⟩, h8⟩, h4⟩ := hb
          cases hx with
          | ptr hL hi =>
            rename_i L
            obtain ⟨q1, q2, q3, c, u', q4, q5, q6⟩ := own_ptr (i := 0) (o := o) H hr h1 h3 hL
            obtain ⟨c', f', q7⟩ := (show RelRow φ id r w from H.obj id _ (AHeap.row_some.1 hr)).ty u hu h1 g L h2 hL
            rw [q4] at q7
            cases q7
            have hj : ∃ j, P.info? t = some j := by
              unfold sizeT at hz
              cases hh : P.info? t with
              | none => rw [hh] at hz; cases hz
              | some j => exact ⟨j, rfl⟩
            obtain ⟨j, hj⟩ := hj
            have hco := cellsOf_size hz
            refine ⟨_, Lib.run_from_unsafe w ⟨L.blk, L.base + 0 * L.sz + o, none⟩ hs hd hj (e := u) (cells := c.size) ?_ ?_, .ptr hL hi⟩
            · simp only [World.shape?, q4]
            · show liesAt P P.depth u (c.size / P.cellsOf u) (L.base + 0 * L.sz + o) t 1 = true
              rw [q1, Nat.zero_mul, Nat.zero_add]
              rcases h4 with ⟨⟨hut, rfl⟩, h7⟩ | h4
              · rw [hut]
                refine liesAt_self hl hco ?_
                rw [q5, q2, h7, hco, Nat.mul_div_cancel _ (Nat.succ_pos n)]
                omega
              · have hh := hus _ (heldIn_mem h4)
                have hd3 : 3 ≤ P.depth := by
                  have : 1 ≤ Made.depth := by decide
                  unfold Program.depth
                  omega
                obtain ⟨k1, -⟩ := liesAt_held (count := 1) hd3 hl hco hh (Nat.le_refl 1)
                refine (liesAt_held hd3 hl hco hh ?_).2
                have h0 : 0 < r.sz := by
                  have := hh
                  unfold heldAt at this
                  simp only at this
                  split at this
                  · simp only [Bool.and_eq_true, nblt_true] at this
                    omega
                  · cases this
                rw [q5, q2, k1, Nat.mul_div_cancel _ h0]
                omega
      · cases he
    · cases he
  · cases he

theorem sdat_sound {ts : Array TypeId} {ty : TypeId} {x v : AV} {cx : Value} (hx : RelV φ x cx) (he : sdatA x = some v) : ∃ cv, (Builtin.unsafeSliceData_ ts ty #[cx]).run P w = .ok cv w ∧ RelV φ v cv := by
  unfold sdatA at he
  split at he
  · cases he; cases hx
    exact ⟨_, Lib.run_unsafeSliceData_nil w ts ty 0 0, .nilPtr⟩
  · rename_i id g s len cap ex
    cases hb : Nat.blt 0 cap with
    | false => rw [hb] at he; cases he
    | true =>
      rw [hb, cond_true] at he; cases he
      have hb := nblt_true.1 hb
      cases hx with
      | slc hL h1 h2 h3 h4 h5 h6 =>
        rename_i c off L
        refine ⟨_, Lib.run_unsafeSliceData_row w ts ty ⟨L.blk, off, none⟩ len c (by omega), ?_⟩
        have := RelV.ptr (φ := φ) (i := s) (o := 0) hL (by omega)
        rw [h6 (by omega)]
        exact this
  · cases he

theorem freeze_block (w : World) (b n : Nat) {c : Array Value} {t : TypeId} {f : Nat × Nat} (hb : w.heap[b]? = some (.cells c t f)) : ∃ f', (w.freeze ⟨b, 0, none⟩ n).heap[b]? = some (.cells c t f') := by
  unfold World.freeze
  by_cases hn : n = 0
  · rw [if_pos hn]; exact ⟨f, hb⟩
  · rw [if_neg hn]
    obtain ⟨lo, hi⟩ := f
    refine ⟨if lo == hi then (0, 0 + n) else (min lo 0, max hi (0 + n)), ?_⟩
    simp only [Array.getElem?_modify, if_pos, hb, Option.map_some]
theorem freeze_other (w : World) (b n k : Nat) (h : k ≠ b) : (w.freeze ⟨b, 0, none⟩ n).heap[k]? = w.heap[k]? := by
  unfold World.freeze
  by_cases hn : n = 0
  · rw [if_pos hn]
  · rw [if_neg hn]
    simp only [Array.getElem?_modify]
    rw [if_neg (fun e => h e.symm)]
theorem freeze_size (w : World) (b n : Nat) : (w.freeze ⟨b, 0, none⟩ n).heap.size = w.heap.size := by
  unfold World.freeze
  by_cases hn : n = 0
  · rw [if_pos hn]
  · rw [if_neg hn]; simp

theorem ustr_sound {pt it ty e : TypeId} {p n v : AV} {cp cn : Value} (H : RelH P B φ h w) (hp : P.underlying pt = some (.pointer e)) (hz : sizeT P e = some 1) (hx : RelV φ p cp) (hy : RelV φ n cn) (he : ustrA h e p n = some (v, h')) :
    SimV P B φ h' v w ((Builtin.unsafeString_ #[pt, it] ty #[cp, cn]).run P w) := by
  unfold ustrA at he
  split at he
  · rename_i k
    cases hy
    have zero : ∀ a : Option Addr, k = 0 → some (AV.str [], h) = some (v, h') → SimV P B φ h' v w ((Builtin.unsafeString_ #[pt, it] ty #[.pointer a, .int .i64 (Int.ofNat k)]).run P w) := by
      intro a hk he2
      clear he
      subst hk
      cases he2
      exact SimV.pure H (Lib.run_unsafeString_none w pt it ty a) (.str rfl)
    split at he
    · cases hx
      cases hk : Nat.beq k 0 with
      | false => rw [hk] at he; cases he
      | true => rw [hk, cond_true] at he; exact zero none (nbeq_true.1 hk) he
    · rename_i id g i o
      cases hx with
      | ptr hL hi =>
        rename_i L
        cases hk : Nat.beq k 0 with
        | true => rw [hk, cond_true] at he; exact zero _ (nbeq_true.1 hk) he
        | false =>
          rw [hk, cond_false] at he
          have hk := nbeq_false.1 hk
          split at he
          · rename_i r hr
            split at he
            · rename_i u hu
              cases hb : (r.rw && Nat.beq g r.g && Nat.beq u e && Nat.beq i 0 && Nat.beq o 0 && Nat.beq r.sz 1 && Nat.ble k most) with
              | false => rw [hb] at he; cases he
              | true =>
                rw [hb, cond_true] at he
                simp only [Bool.and_eq_true, nble_true, nbeq_true] at hb
                obtain ⟨⟨⟨⟨⟨⟨h1, rfl⟩, rfl⟩, rfl⟩, rfl⟩, h6⟩, h7⟩ := hb
                simp only at he
                cases hl : Nat.beq (r.es.take k).length k with
                | false => rw [hl] at he; cases he
                | true =>
                  rw [hl, cond_true] at he
                  have hl := nbeq_true.1 hl
                  split at he
                  · rename_i s hby
                    cases he
                    have hro := AHeap.row_some.1 hr
                    have hrow : RelRow φ id r w := H.obj id _ hro
                    obtain ⟨q1, q2, q3, c, u', q4, q5, q6⟩ := own_ptr (i := 0) (o := 0) H hr h1 rfl hL
                    obtain ⟨c', f', q7⟩ := hrow.ty u hu h1 r.g L hrow.mg hL
                    rw [q4] at q7; cases q7
                    obtain ⟨_, vals, hv, hcv⟩ := hrow.cells r.g L hrow.mg hL
                    rw [q3, List.take_of_length_le (Nat.le_refl _)] at hv
                    have hfl : ∀ e ∈ r.es, e.length = 1 := fun e he => by rw [← h6]; exact hrow.es e he
                    have htk : (r.es.take k).flatten = r.es.flatten.take k := by
                      have := fl_take (es := r.es) hfl (n := k)
                      simpa using this
                    have hnv : RelVs φ (r.es.take k).flatten (vals.take k) := by rw [htk]; exact hv.take k
                    obtain ⟨e1, e2⟩ := bytesOf_sound hby hnv
                    have hsl : s.length = k := by
                      have := congrArg List.length e1
                      simp at this
                      have h8 := hnv.length
                      rw [fl_len (sz := 1) (fun e he => hfl e (List.mem_of_mem_take he)), hl] at h8
                      simp at h8
                      omega
                    obtain ⟨bs, hbs⟩ : ∃ bs : List UInt8, bs.map UInt8.toNat = s := ⟨s.map UInt8.ofNat, by
                      rw [List.map_map]
                      conv => rhs; rw [← List.map_id s]
                      refine List.map_congr_left fun a ha => ?_
                      have := e2 a ha
                      simp [UInt8.toNat_ofNat', Nat.mod_eq_of_lt this]⟩
                    have hbl : bs.length = k := by rw [← hsl, ← hbs]; simp
                    have hcells : ∀ j x, bs[j]? = some x → w.cell? ((⟨L.blk, 0, none⟩ : Addr).add j) = some (.int .u8 x.toNat) := by
                      intro j x hj
                      have hjl := (List.getElem?_eq_some_iff.1 hj).1
                      have hvj : vals[j]? = some (.int .u8 (x.toNat : Int)) := by
                        have h9 : (vals.take k)[j]? = vals[j]? := List.getElem?_take_of_lt (by omega)
                        rw [← h9, e1, ← hbs]
                        simp [hj]
                      have := hcv j _ hvj
                      rw [q1, Nat.zero_add] at this
                      unfold Addr.add
                      simp only [Nat.zero_add]
                      by_cases hj0 : j = 0
                      · subst hj0; simpa using this
                      · simpa [hj0] using this
                    have hco := cellsOf_size hz
                    have hrun := Lib.run_unsafeString_row (P := P) w pt it ty u hp hco L.blk c.size (by simp only [World.shape?, q4]) bs (by intro hh; rw [hh] at hbl; simp at hbl; omega) (by
                        rw [q5, q2, h6, Nat.mul_one, hbl]
                        have : k ≤ r.es.length := by rw [List.length_take] at hl; omega
                        omega) (by unfold most at h7; omega) hcells
                    rw [hbl] at hrun
                    have haddr : (L.base + 0 * L.sz + 0) = 0 := by rw [q1]; simp
                    obtain ⟨f', hfb⟩ := freeze_block w L.blk k q4
                    have hoth := fun j hj => freeze_other w L.blk k j hj
                    refine ⟨_, _, φ, by rw [haddr]; exact hrun, .str (by simpa using hbs), ?_, φ.le_refl, ?_⟩
                    · refine H.update hro h1 rfl φ.le_refl (fun _ _ _ => rfl) (fun g K e => .inl e) (by rw [freeze_size]; exact Nat.le_refl _) (fun j _ hj => hoth j (fun e => hj r.g L hL e.symm)) (NoDef.of_block hfb (fun ds e => by cases e) hoth) trivial
                    · have hB : B ≤ L.blk := (H.own id _ r.g L hro hL).1 h1
                      refine ⟨?_, ?_, ?_, by rw [freeze_size]; exact Nat.le_refl _, fun j hj => hoth j (by omega), fun j ds hj => ?_, fun j r hj => ⟨r, ?_⟩⟩
                      · unfold World.freeze; split <;> rfl
                      · unfold World.freeze; split <;> rfl
                      · unfold World.freeze; split <;> rfl
                      · rw [hoth j (fun e => by subst e; rw [q4] at hj; cases hj)]; exact hj
                      · rw [hoth j (fun e => by subst e; rw [q4] at hj; cases hj)]; exact hj
                  · cases he
            · cases he
          · cases he
    · cases he
  · cases he
end
end Go.Ab
