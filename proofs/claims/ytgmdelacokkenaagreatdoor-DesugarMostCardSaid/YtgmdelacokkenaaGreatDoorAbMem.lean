/-
  Rows read and written: what a segment of a row is in the model's memory; a segment stored; a new row.
-/
import Derived.Test.YtgmdelacokkenaaGreatDoorAbHeap
namespace Go.Ab

theorem row_flat {φ : Phi} {id g : Nat} {r : Row} {w : World} (h : RelRow φ id r w) {L : Loc} (hL : φ id g = some L) (hm : r.m ≤ g) {p n : Nat} (hp : p + n ≤ L.ext * r.sz) :
    ∃ vs : List Value, RelVs φ ((r.es.flatten.drop p).take n) vs ∧ vs.length = n ∧ ∀ (j : Nat) (v : Value), vs[j]? = some v → w.cell? ((⟨L.blk, L.base + p, none⟩ : Addr).add j) = some v := by
  obtain ⟨hext, vals, hv, hc⟩ := h.cells g L hm hL
  have hlen : (r.es.take L.ext).flatten.length = L.ext * r.sz := by
    rw [fl_len (sz := r.sz) (fun e he => h.es e (List.mem_of_mem_take he)), List.length_take]
    congr 1; omega
  refine ⟨(vals.drop p).take n, ?_, ?_, ?_⟩
  · have e1 : (r.es.flatten.drop p).take n = (((r.es.take L.ext).flatten).drop p).take n := by
      rw [fl_take h.es, List.drop_take, List.take_take]
      congr 1
      omega
    rw [e1]
    exact (hv.drop p).take n
  · have := hv.length
    simp only [List.length_take, List.length_drop]
    omega
  · intro j v hj
    have hjn : j < n := by
      have := (List.getElem?_eq_some_iff.1 hj).1
      simp only [List.length_take, List.length_drop] at this
      omega
    rw [Addr.add_lit, Nat.add_assoc]
    apply hc
    rw [List.getElem?_take_of_lt hjn, List.getElem?_drop] at hj
    exact hj

theorem fl_seg {sz : Nat} {es : List (List AV)} (h : ∀ e ∈ es, e.length = sz) {i o n : Nat} {e : List AV} (hi : es[i]? = some e) (ho : o + n ≤ e.length) :
    ((es.flatten.drop (i * sz + o)).take n) = (e.drop o).take n := by
  obtain ⟨hlt, he⟩ := List.getElem?_eq_some_iff.1 hi
  have hes : es.flatten = (es.take i).flatten ++ (e ++ (es.drop (i + 1)).flatten) := by
    conv => lhs; rw [← List.take_append_drop i es]
    rw [List.flatten_append, List.drop_eq_getElem_cons hlt, he, List.flatten_cons]
  have hl1 : (es.take i).flatten.length = i * sz := by
    rw [fl_len (sz := sz) (fun x hx => h x (List.mem_of_mem_take hx)), List.length_take]
    congr 1; omega
  rw [hes, ← hl1, List.drop_length_add_append, List.drop_append_of_le_length (by omega), List.take_append_of_le_length (by simp; omega)]

theorem row_seg {φ : Phi} {id g : Nat} {r : Row} {w : World} (h : RelRow φ id r w) {L : Loc} (hL : φ id g = some L) (hm : r.m ≤ g) {i o n : Nat} {e : List AV} (hi : i < L.ext) (he : r.es[i]? = some e) (hn : o + n ≤ e.length) :
    ∃ vs : List Value, RelVs φ ((e.drop o).take n) vs ∧ vs.length = n ∧ ∀ (j : Nat) (v : Value), vs[j]? = some v → w.cell? ((⟨L.blk, L.base + i * L.sz + o, none⟩ : Addr).add j) = some v := by
  have hsz : L.sz = r.sz := (h.gen g L hL).2
  have hel : e.length = r.sz := h.es e (List.mem_of_getElem? he)
  have hp : i * r.sz + o + n ≤ L.ext * r.sz := by
    have : (i + 1) * r.sz ≤ L.ext * r.sz := Nat.mul_le_mul_right _ hi
    rw [Nat.add_mul] at this; omega
  obtain ⟨vs, h1, h2, h3⟩ := row_flat h hL hm hp
  rw [fl_seg h.es he hn] at h1
  refine ⟨vs, h1, h2, fun j v hj => ?_⟩
  have := h3 j v hj
  rw [hsz, Nat.add_assoc]
  exact this

/-- A segment of an own row, at its newest generation, stored anew. -/
theorem row_store {P : Program} {B : Base} {φ : Phi} {h : AHeap} {w : World} (H : RelH P B φ h w) {id : Nat} {r : Row} (hr : h.get id = some (.row r)) (hrw : r.rw = true) {L : Loc} (hL : φ id r.g = some L)
    {new : List AV} {nv : List Value} (hn : RelVs φ new nv) (hleaf : allLeaf new = true) {p : Nat} (hp : p + new.length ≤ r.es.length * r.sz) {es' : List (List AV)} (he1 : ∀ e ∈ es', e.length = r.sz)
    (he2 : es'.length = r.es.length) (he3 : es'.flatten = lay r.es.flatten p new) (he4 : ∀ e ∈ es', allLeaf e = true) :
    ∃ w', (storeCells ⟨L.blk, L.base + p, none⟩ nv).run P w = .ok () w' ∧ RelH P B φ (h.put id (.row { r with es := es', m := r.g })) w' ∧ Gw B w w' := by
  have hrow : RelRow φ id r w := H.obj id _ hr
  obtain ⟨hbase, c, t, hc, hcs, hlt⟩ := hrow.own hrw r.g L hrow.mg hL
  have hsz : L.sz = r.sz := (hrow.gen r.g L hL).2
  obtain ⟨L', hL', hext⟩ := hrow.cur
  have : L' = L := by rw [hL] at hL'; cases hL'; rfl
  subst this
  have hnl := hn.length
  have hfit : p + nv.length ≤ c.size := by
    have h1 : r.es.length * r.sz ≤ L'.tot * L'.sz := by rw [hsz]; exact Nat.mul_le_mul_right _ (by omega)
    omega
  have hst := run_storeCells_at P L'.blk p t nv 0 c w hc (by simpa using hfit) (hn.leaf hleaf)
  simp only [Nat.add_zero] at hst
  have hB : B ≤ L'.blk := (H.own id _ r.g L' hr hL).1 hrw
  generalize hc' : (c.toList.take p ++ nv ++ c.toList.drop (p + nv.length)).toArray = c' at hst
  have hheap := setRow_heap w L'.blk c c' t (0, 0) hc
  have hc's : c'.size = c.size := by
    rw [← hc']; simp; omega
  obtain ⟨hx1, vals, hv, hcv⟩ := hrow.cells r.g L' hrow.mg hL
  have hlenE : (r.es.take L'.ext).flatten.length = r.es.length * r.sz := by
    rw [fl_len (sz := r.sz) (fun e he => hrow.es e (List.mem_of_mem_take he)), List.length_take]
    congr 1; omega
  have htk : r.es.take L'.ext = r.es := List.take_of_length_le (by omega)
  rw [htk] at hv hlenE
  refine ⟨w.setRow L'.blk c', by rw [hbase, Nat.zero_add]; exact hst, ?_, ?_⟩
  · refine H.update hr hrw (by exact hrw) φ.le_refl (fun _ _ _ => rfl) (fun g K e => .inl e) (by simp) (fun k _ hk => setRow_other w L'.blk k c' (fun e => hk r.g L' hL e.symm)) (NoDef.of_block hheap (fun ds e => by cases e) (fun k hk => setRow_other w L'.blk k c' hk)) ?_
    refine ⟨Nat.le_refl _, hrow.sz, he1, he4, ⟨L', hL, by rw [he2]; exact hext⟩, hrow.gen, fun g K hm hK => ?_, fun _ g K hm hK => ?_, fun u hu _ g K hm hK => ?_⟩
    · have hg : g = r.g := Nat.le_antisymm (hrow.gen g K hK).1 hm
      subst hg
      rw [hL] at hK; cases hK
      refine ⟨by simp only; omega, ?_⟩
      refine ⟨vals.take p ++ nv ++ vals.drop (p + nv.length), ?_, ?_⟩
      · rw [List.take_of_length_le (by simp only; omega), he3]
        unfold lay
        rw [hnl]
        exact ((hv.take p).append hn).append (hv.drop _)
      · intro j v hj
        rw [cell_setRow_same w L'.blk _ c c' t (0, 0) hc, ← hc', hbase, Nat.zero_add]
        have hvl : vals.length = r.es.length * r.sz := by rw [← hv.length]; exact hlenE
        have hcell : ∀ (k : Nat) (u : Value), vals[k]? = some u → c.toList[k]? = some u := by
          intro k u hk
          have := hcv k u hk
          rw [cell_of_row w L'.blk _ c t (0, 0) hc, hbase, Nat.zero_add] at this
          simpa using this
        have hjlt := (List.getElem?_eq_some_iff.1 hj).1
        simp only [List.length_append, List.length_take, List.length_drop] at hjlt
        have hcl : c.toList.length = c.size := by simp
        simp only [List.getElem?_toArray]
        by_cases h1 : j < p
        · rw [List.append_assoc, List.getElem?_append_left (by simp; omega), List.getElem?_take_of_lt h1] at hj ⊢
          exact hcell j v hj
        · by_cases h2 : j < p + nv.length
          · rw [List.append_assoc, List.getElem?_append_right (by simp; omega), List.getElem?_append_left (by simp; omega)] at hj ⊢
            simp only [List.length_take] at hj ⊢
            rw [show min p vals.length = p by omega] at hj
            rw [show min p c.toList.length = p by omega]
            exact hj
          · rw [List.getElem?_append_right (by simp; omega), List.getElem?_drop] at hj ⊢
            simp only [List.length_append, List.length_take] at hj ⊢
            rw [show p + nv.length + (j - (min p vals.length + nv.length)) = j by omega] at hj
            rw [show p + nv.length + (j - (min p c.toList.length + nv.length)) = j by omega]
            exact hcell j v hj
    · have hg : g = r.g := Nat.le_antisymm (hrow.gen g K hK).1 hm
      subst hg
      rw [hL] at hK; cases hK
      exact ⟨hbase, c', t, hheap, by rw [hc's]; exact hcs, hlt⟩
    · have hg : g = r.g := Nat.le_antisymm (hrow.gen g K hK).1 hm
      subst hg
      obtain ⟨c0, f0, hc0⟩ := hrow.ty u hu hrw r.g K hrow.mg hK
      rw [hL] at hK; cases hK
      rw [hc] at hc0; cases hc0
      exact ⟨_, _, hheap⟩
  · refine Gw.of_block hc hB (fun ds e => by cases e) (fun r e => by cases e) hheap ?_ ?_ (fun k hk => setRow_other w L'.blk k c' hk) (by simp) rfl rfl rfl
    · intro c0 t0 fr e; cases e; rfl
    · intro c0 t0 fr e; cases e; rfl

/-- A new row's block, holding its cells (and, behind them, spare ones). -/
theorem row_fillT {P : Program} {B : Base} {φ : Phi} {h : AHeap} {w : World} {id : Nat} (H : RelH P B φ h w) {es : List (List AV)} {sz : Nat} (hsz : 0 < sz) (hes : ∀ e ∈ es, e.length = sz) (hlf : ∀ e ∈ es, allLeaf e = true) {vals spare : List Value} (hv : RelVs φ es.flatten vals)
    {tot : Nat} (htot : vals.length + spare.length = tot * sz) (t : TypeId) (ty : Option Nat) (hty : ∀ e, ty = some e → e = t) (hg : B.gh id = some (.row { es, sz, g := 0, m := 0, rw := true, ty })) :
    ∃ φ', φ.le φ' ∧ φ' id 0 = some ⟨w.heap.size, 0, sz, es.length, tot⟩ ∧ RelH P (B.del id) φ' h (w.alloc (.cells (vals ++ spare).toArray t)) ∧ Gw B w (w.alloc (.cells (vals ++ spare).toArray t)) := by
  have hnone := (H.ghost id _ hg).2.2.1
  have hle : φ.le (φ.add id 0 ⟨w.heap.size, 0, sz, es.length, tot⟩) := Phi.le_add _ (hnone 0)
  refine ⟨φ.add id 0 ⟨w.heap.size, 0, sz, es.length, tot⟩, hle, Phi.add_same _ _ _ _, ?_, Gw.alloc H.base (fun c t' fr e => by cases e; rfl)⟩
  have hvl : vals.length = es.length * sz := by rw [← hv.length, fl_len hes]
  have hkey : ∀ g L, φ.add id 0 ⟨w.heap.size, 0, sz, es.length, tot⟩ id g = some L → g = 0 ∧ L = ⟨w.heap.size, 0, sz, es.length, tot⟩ := by
    intro g L e
    by_cases hg : g = 0
    · subst hg; rw [Phi.add_same] at e; cases e; exact ⟨rfl, rfl⟩
    · rw [Phi.add_other _ _ (by omega), hnone] at e; cases e
  refine H.fill hg rfl rfl (fun ds e => by cases e) ?_
  refine ⟨Nat.le_refl _, hsz, hes, hlf, ⟨_, Phi.add_same _ _ _ _, rfl⟩, fun g L e => ?_, fun g L _ e => ?_, fun _ g L _ e => ?_, fun u hu _ g L _ e => ?_⟩
  · obtain ⟨rfl, rfl⟩ := hkey g L e; exact ⟨Nat.le_refl _, rfl⟩
  · obtain ⟨rfl, rfl⟩ := hkey g L e
    refine ⟨Nat.le_refl _, vals, ?_, fun j v hj => ?_⟩
    · rw [List.take_of_length_le (Nat.le_refl _)]; exact hv.mono hle
    · have hjl := (List.getElem?_eq_some_iff.1 hj).1
      simp only [Nat.zero_add]
      rw [World.cell?_alloc_new]
      simp [List.getElem?_append_left hjl, hj]
  · obtain ⟨rfl, rfl⟩ := hkey g L e
    refine ⟨rfl, _, t, heap_alloc_new w _, by simp; omega, ?_⟩
    simp only
    rcases Nat.lt_or_ge tot es.length with h1 | h1
    · have h2 : (tot + 1) * sz ≤ es.length * sz := Nat.mul_le_mul_right _ h1
      rw [Nat.add_mul] at h2
      omega
    · exact h1
  · obtain ⟨rfl, rfl⟩ := hkey g L e
    obtain rfl := hty u hu
    exact ⟨_, _, heap_alloc_new w _⟩

/-- A new row, its block holding its cells (and, behind them, spare ones). -/
theorem row_newT {P : Program} {B : Base} {φ : Phi} {h : AHeap} {w : World} (H : RelH P B φ h w) {es : List (List AV)} {sz : Nat} (hsz : 0 < sz) (hes : ∀ e ∈ es, e.length = sz) (hlf : ∀ e ∈ es, allLeaf e = true) {vals spare : List Value} (hv : RelVs φ es.flatten vals)
    {tot : Nat} (htot : vals.length + spare.length = tot * sz) (t : TypeId) (ty : Option Nat) (hty : ∀ e, ty = some e → e = t) :
    ∃ φ', φ.le φ' ∧ φ' h.sz 0 = some ⟨w.heap.size, 0, sz, es.length, tot⟩ ∧ RelH P B φ' (newRow h es sz ty) (w.alloc (.cells (vals ++ spare).toArray t)) ∧ Gw B w (w.alloc (.cells (vals ++ spare).toArray t)) := by
  obtain ⟨φ', h1, h2, h3, h4⟩ := row_fillT (H.pushGhost (.row { es, sz, g := 0, m := 0, rw := true, ty }) rfl) hsz hes hlf hv htot t ty hty (Base.add_same _ _ _)
  rw [Base.del_add H.noGhost] at h3
  exact ⟨φ', h1, h2, h3, h4⟩

theorem row_new {P : Program} {B : Base} {φ : Phi} {h : AHeap} {w : World} (H : RelH P B φ h w) {es : List (List AV)} {sz : Nat} (hsz : 0 < sz) (hes : ∀ e ∈ es, e.length = sz) (hlf : ∀ e ∈ es, allLeaf e = true) {vals spare : List Value} (hv : RelVs φ es.flatten vals)
    {tot : Nat} (htot : vals.length + spare.length = tot * sz) (t : TypeId) :
    ∃ φ', φ.le φ' ∧ φ' h.sz 0 = some ⟨w.heap.size, 0, sz, es.length, tot⟩ ∧ RelH P B φ' (newRow h es sz) (w.alloc (.cells (vals ++ spare).toArray t)) ∧ Gw B w (w.alloc (.cells (vals ++ spare).toArray t)) :=
  row_newT H hsz hes hlf hv htot t none (fun _ e => by cases e)

end Go.Ab
