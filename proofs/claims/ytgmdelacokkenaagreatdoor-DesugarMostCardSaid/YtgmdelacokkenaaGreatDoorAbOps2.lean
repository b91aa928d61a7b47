/-
  More operations: structs and slices built, conversions, slices cut, addresses, lengths.
-/
import Derived.Test.YtgmdelacokkenaaGreatDoorAbOps
namespace Go.Ab
set_option linter.unusedSimpArgs false
set_option linter.unusedVariables false

theorem fold_lay (off : Nat) : ∀ (l : List Value) (k : Nat) (base : Array Value), off + k + l.length ≤ base.size →
    ((l.zipIdx k).foldl (fun (cs : Array Value) (x : Value × Nat) => cs.setIfInBounds (off + x.2) x.1) base).toList = lay base.toList (off + k) l
  | [], k, base, _ => by simp [lay]
  | v :: l, k, base, h => by
    simp only [List.length_cons] at h
    simp only [List.zipIdx_cons, List.foldl_cons]
    rw [fold_lay off l (k + 1) _ (by simp; omega)]
    unfold lay
    simp only [Array.toList_setIfInBounds, List.length_cons]
    have := list_seg_step base.toList (off + k) v l (by simp; omega)
    rw [show off + (k + 1) = off + k + 1 by omega]
    exact this

theorem fold_lay' (off : Nat) (l : Array Value) (base : Array Value) (h : off + l.size ≤ base.size) :
    (l.zipIdx.foldl (fun cs (c, j) => cs.setIfInBounds (off + j) c) base).toList = lay base.toList off l.toList := by
  rw [← Array.foldl_toList, Array.toList_zipIdx]
  exact fold_lay off l.toList 0 base (by simpa using h)

section
variable {P : Program} {B : Base} {φ : Phi} {h h' : AHeap} {w : World} {v : AV} {N : Nat} {ρ : Regs} {a : Act}

theorem fill_sound (hR : RelR φ N ρ a.tmps) (place : Nat → Option (Nat × Nat)) {comp : List (Nat × Operand) → Option (List (Nat × Nat × Opd))}
    (hnil : comp [] = some []) (hcons : ∀ i x l r, comp ((i, x) :: l) = some r → ∃ off n y r', place i = some (off, n) ∧ opdOf x = some y ∧ comp l = some r' ∧ r = (off, n, y) :: r') :
    ∀ (parts : List (Nat × Operand)) (ap : List (Nat × Nat × Opd)) (ac : List AV) (cc : Array Value) (r : List AV), comp parts = some ap → RelVs φ ac cc.toList → fillA ρ ac ap = some r →
      ∃ cc', Instr.fill place cc (parts.map fun p => (p.1, a.eval p.2)) = some cc' ∧ RelVs φ r cc'.toList
  | [], ap, ac, cc, r, hc, hv, hf => by
    rw [hnil] at hc; cases hc
    simp [fillA] at hf; subst hf
    exact ⟨cc, by simp [Instr.fill], hv⟩
  | (i, x) :: parts, ap, ac, cc, r, hc, hv, hf => by
    obtain ⟨off, n, y, r', h1, h2, h3, rfl⟩ := hcons i x parts ap hc
    simp only [fillA] at hf
    cases he : ev ρ y with
    | none => simp [he] at hf
    | some u =>
      rw [he] at hf
      simp only at hf
      cases hcnd : (Nat.beq u.cells.length n && Nat.ble (off + n) ac.length && allLeaf u.cells) with
      | false => rw [hcnd] at hf; cases hf
      | true =>
        rw [hcnd, cond_true] at hf
        simp only [Bool.and_eq_true, nbeq_true, nble_true] at hcnd
        obtain ⟨⟨c1, c2⟩, c3⟩ := hcnd
        have hu := ev_opd hR h2 he
        have hul := hu.cells.length
        have hcl := hv.length
        simp only [Array.length_toList] at hul hcl
        have hfit : off + (a.eval x).cells.size ≤ cc.size := by omega
        have hlay := fold_lay' off (a.eval x).cells cc hfit
        have hv' : RelVs φ (lay ac off u.cells) (lay cc.toList off (a.eval x).cells.toList) := by
          unfold lay
          rw [hu.cells.length]
          exact ((hv.take off).append hu.cells).append (hv.drop _)
        rw [← hlay] at hv'
        obtain ⟨cc', e1, e2⟩ := fill_sound hR place hnil hcons parts r' _ _ r h3 hv' hf
        refine ⟨cc', ?_, e2⟩
        simp only [List.map_cons, Instr.fill, h1]
        rw [if_neg (by simp; omega)]
        exact e1

theorem partsOf_cons {places : List (Nat × Nat)} : ∀ i x l r, partsOf places ((i, x) :: l) = some r → ∃ off n y r', places[i]? = some (off, n) ∧ opdOf x = some y ∧ partsOf places l = some r' ∧ r = (off, n, y) :: r' := by
  intro i x l r hr
  simp only [partsOf] at hr
  split at hr
  · rename_i off n h1
    split at hr
    · rename_i y h2
      split at hr
      · rename_i r' h3
        cases hr
        exact ⟨off, n, y, r', h1, h2, h3, rfl⟩
      · cases hr
    · cases hr
  · cases hr

theorem partsArr_cons {esz : Nat} : ∀ i x l r, partsArr esz ((i, x) :: l) = some r → ∃ off n y r', some (i * esz, esz) = some (off, n) ∧ opdOf x = some y ∧ partsArr esz l = some r' ∧ r = (off, n, y) :: r' := by
  intro i x l r hr
  simp only [partsArr] at hr
  split at hr
  · rename_i y h2
    split at hr
    · rename_i r' h3
      cases hr
      exact ⟨_, _, y, r', rfl, h2, h3, rfl⟩
    · cases hr
  · cases hr

theorem cells_avOf {zv : Value} {z : AV} (hz : avOf zv = some z) : RelVs φ z.cells zv.cells.toList := (relV_avOf hz).cells

theorem build_sound {t : TypeId} {parts : Array (Nat × Operand)} {op : AOp} (hR : RelR φ N ρ a.tmps) (H : RelH P B φ h w) (hc : compRaw P (.build t parts) = some op) (he : evalA ρ h op = some (v, h')) :
    SimV P B φ h' v w ((Instr.build t (parts.map fun (i, x) => (i, a.eval x))).run P w) := by
  simp only [compRaw, Option.bind_eq_bind, Option.pure_def] at hc
  cases hz : zeroT P t with
  | none => simp [hz] at hc
  | some z =>
    rw [hz] at hc
    simp only [Option.bind_some] at hc
    obtain ⟨zv, it, z1, z2, z3, z4⟩ := run_zeroT hz w
    have hmap : (parts.map fun (i, x) => (i, a.eval x)).toList = parts.toList.map fun p => (p.1, a.eval p.2) := by simp
    split at hc
    · rename_i fs hu
      cases hp : fs.toList.mapM (fun f => (P.info? f.type).map fun i => (f.offset, i.size)) with
      | none => simp [hp] at hc
      | some places =>
        rw [hp] at hc
        simp only [Option.bind_some] at hc
        cases hps : partsOf places parts.toList with
        | none => simp [hps] at hc
        | some ap =>
          rw [hps] at hc; simp at hc; subst hc
          simp only [evalA] at he
          cases hf : fillA ρ z.cells ap with
          | none => simp [hf] at he
          | some r =>
            rw [hf] at he; simp at he
            obtain ⟨rfl, rfl⟩ := he
            obtain ⟨cc', e1, e2⟩ := fill_sound hR (fun i => places[i]?) (comp := partsOf places) rfl partsOf_cons parts.toList ap z.cells zv.cells r hps (cells_avOf z2) hf
            refine SimV.pure H (cv := .agg cc') (run_build w t _ cc' ?_) (.agg e2)
            rw [hmap]
            unfold Program.built
            rw [z3, hu]
            simp only [z4, hp]
            simpa using e1
    · rename_i n e hu
      cases hs : sizeT P e with
      | none => simp [hs] at hc
      | some esz =>
        rw [hs] at hc
        simp only [Option.bind_some] at hc
        cases hps : partsArr esz parts.toList with
        | none => simp [hps] at hc
        | some ap =>
          rw [hps] at hc; simp at hc; subst hc
          simp only [evalA] at he
          cases hf : fillA ρ z.cells ap with
          | none => simp [hf] at he
          | some r =>
            rw [hf] at he; simp at he
            obtain ⟨rfl, rfl⟩ := he
            obtain ⟨cc', e1, e2⟩ := fill_sound hR (fun i => some (i * esz, esz)) (comp := partsArr esz) rfl partsArr_cons parts.toList ap z.cells zv.cells r hps (cells_avOf z2) hf
            refine SimV.pure H (cv := .agg cc') (run_build w t _ cc' ?_) (.agg e2)
            rw [hmap]
            unfold Program.built
            unfold sizeT at hs
            cases hi : P.info? e with
            | none => simp [hi] at hs
            | some ie =>
              simp [hi] at hs; subst hs
              rw [z3, hu]
              simp only [z4, hi]
              exact e1
    · cases hc

theorem fillRow_len {sz : Nat} : ∀ (ap : List (Nat × Opd)) (es r : List (List AV)), (∀ e ∈ es, e.length = sz ∧ allLeaf e = true) → fillRow ρ sz es ap = some r → (∀ e ∈ r, e.length = sz ∧ allLeaf e = true) ∧ r.length = es.length
  | [], es, r, hes, hf => by simp [fillRow] at hf; subst hf; exact ⟨hes, rfl⟩
  | (i, x) :: ap, es, r, hes, hf => by
    simp only [fillRow] at hf
    split at hf
    · rename_i u he
      cases hcnd : (Nat.beq u.cells.length sz && Nat.blt i es.length && allLeaf u.cells) with
      | false => rw [hcnd] at hf; cases hf
      | true =>
        rw [hcnd, cond_true, setNth_eq] at hf
        simp only [Bool.and_eq_true, nbeq_true] at hcnd
        obtain ⟨h1, h2⟩ := fillRow_len ap _ r (by
          intro e hx
          rcases List.mem_or_eq_of_mem_set hx with hx | rfl
          · exact hes e hx
          · exact ⟨hcnd.1.1, hcnd.2⟩) hf
        exact ⟨h1, by simpa using h2⟩
    · cases hf

theorem fillRow_sound (hR : RelR φ N ρ a.tmps) {sz : Nat} : ∀ (parts : List (Nat × Operand)) (ap : List (Nat × Opd)) (es : List (List AV)) (cc : Array Value) (r : List (List AV)),
    partsSl parts = some ap → (∀ e ∈ es, e.length = sz) → RelVs φ es.flatten cc.toList → fillRow ρ sz es ap = some r →
      ∃ cc', Instr.fill (fun i => some (i * sz, sz)) cc (parts.map fun p => (p.1, a.eval p.2)) = some cc' ∧ RelVs φ r.flatten cc'.toList
  | [], ap, es, cc, r, hc, hes, hv, hf => by
    simp [partsSl] at hc; subst hc
    simp [fillRow] at hf; subst hf
    exact ⟨cc, by simp [Instr.fill], hv⟩
  | (i, x) :: parts, ap, es, cc, r, hc, hes, hv, hf => by
    simp only [partsSl] at hc
    split at hc
    · rename_i y h2
      split at hc
      · rename_i r' h3
        cases hc
        simp only [fillRow] at hf
        split at hf
        · rename_i u he
          cases hcnd : (Nat.beq u.cells.length sz && Nat.blt i es.length && allLeaf u.cells) with
          | false => rw [hcnd] at hf; cases hf
          | true =>
            rw [hcnd, cond_true, setNth_eq] at hf
            simp only [Bool.and_eq_true, nbeq_true, nblt_true] at hcnd
            obtain ⟨⟨c1, c2⟩, c3⟩ := hcnd
            have hu := ev_opd hR h2 he
            have hul := hu.cells.length
            have hcl := hv.length
            have hfl := fl_len hes
            simp only [Array.length_toList] at hul hcl
            have hmul : (i + 1) * sz ≤ es.length * sz := Nat.mul_le_mul_right _ c2
            rw [Nat.add_mul] at hmul
            have hfit : i * sz + (a.eval x).cells.size ≤ cc.size := by omega
            have hlay := fold_lay' (i * sz) (a.eval x).cells cc hfit
            have hset : (es.set i u.cells).flatten = lay es.flatten (i * sz) u.cells := by
              rw [set_eq_lay _ _ _ c2, fl_lay hes (by intro e he; simp at he; subst he; exact c1)]
              simp
            have hv' : RelVs φ (es.set i u.cells).flatten (lay cc.toList (i * sz) (a.eval x).cells.toList) := by
              rw [hset]
              unfold lay
              rw [hu.cells.length]
              exact ((hv.take _).append hu.cells).append (hv.drop _)
            rw [← hlay] at hv'
            obtain ⟨cc', e1, e2⟩ := fillRow_sound hR parts r' _ _ r h3 (by
              intro e hx
              rcases List.mem_or_eq_of_mem_set hx with hx | rfl
              · exact hes e hx
              · exact c1) hv' hf
            refine ⟨cc', ?_, e2⟩
            simp only [List.map_cons, Instr.fill]
            rw [if_neg (by simp; omega)]
            exact e1
        · cases hf
      · cases hc
    · cases hc

theorem mod_replicate (z : List Value) (hz : 0 < z.length) : ∀ (n : Nat), (List.range (n * z.length)).map (fun i => z.toArray[i % z.length]!) = (List.replicate n z).flatten := by
  intro n
  apply List.ext_getElem?
  intro j
  by_cases hj : j < n * z.length
  · have hm : j % z.length < z.length := Nat.mod_lt _ hz
    have hd : j / z.length < n := by
      rw [Nat.div_lt_iff_lt_mul hz]; exact hj
    have h1 : (List.replicate n z)[j / z.length]? = some z := by simp [List.getElem?_replicate, hd]
    have h2 : z[j % z.length]? = some z[j % z.length] := List.getElem?_eq_getElem hm
    have := fl_get (sz := z.length) (es := List.replicate n z) (fun e he => by rw [List.eq_of_mem_replicate he]) h1 h2
    rw [show j / z.length * z.length + j % z.length = j by rw [Nat.mul_comm]; exact Nat.div_add_mod j z.length] at this
    rw [this]
    simp [hj, hm]
  · have h1 : (List.replicate n z).flatten.length = n * z.length := by
      rw [fl_len (sz := z.length) (fun e he => by rw [List.eq_of_mem_replicate he])]; simp
    rw [List.getElem?_eq_none (by simp; omega), List.getElem?_eq_none (by omega)]

theorem zero_cells {zv : Value} (hz : 0 < zv.cells.size) (n : Nat) : ((Array.range (n * zv.cells.size)).map (zv.cells[· % zv.cells.size]!)) = (List.replicate n zv.cells.toList).flatten.toArray := by
  apply Array.ext'
  have := mod_replicate zv.cells.toList (by simpa using hz) n
  simp only [Array.length_toList, Array.toArray_toList] at this
  simp only [Array.toList_map, Array.toList_range]
  exact this

theorem bslice_sound {t : TypeId} {n : Nat} {parts : Array (Nat × Operand)} {op : AOp} (hR : RelR φ N ρ a.tmps) (H : RelH P B φ h w) (hc : compRaw P (.buildSlice t n parts) = some op) (he : evalA ρ h op = some (v, h')) :
    SimV P B φ h' v w ((Instr.buildSlice t n (parts.map fun (i, x) => (i, a.eval x))).run P w) := by
  simp only [compRaw, Option.bind_eq_bind, Option.pure_def] at hc
  split at hc
  · rename_i e hu
    cases hs : sizeT P e with
    | none => simp [hs] at hc
    | some sz =>
      cases hz : zeroT P e with
      | none => simp [hs, hz] at hc
      | some z =>
        cases hps : partsSl parts.toList with
        | none => simp [hs, hz, hps] at hc
        | some ap =>
          simp [hs, hz, hps] at hc; subst hc
          simp only [evalA] at he
          cases hcnd : (Nat.beq z.cells.length sz && Nat.blt 0 sz && Nat.ble (n * sz) 16777216 && allLeaf z.cells) with
          | false => rw [hcnd] at he; cases he
          | true =>
            rw [hcnd, cond_true] at he
            simp only [Bool.and_eq_true, nbeq_true, nblt_true, nble_true] at hcnd
            obtain ⟨⟨⟨c1, c2⟩, c3⟩, c4⟩ := hcnd
            rw [repl_eq] at he
            cases hf : fillRow ρ sz (List.replicate n z.cells) ap with
            | none => simp [hf] at he
            | some es =>
              rw [hf] at he; simp at he
              obtain ⟨rfl, rfl⟩ := he
              obtain ⟨zv, it, z1, z2, z3, z4⟩ := run_zeroT hz w
              have hzc := cells_avOf (φ := φ) z2
              have hzl : zv.cells.size = sz := by have := hzc.length; simp only [Array.length_toList] at this; omega
              have hrep : ∀ e ∈ List.replicate n z.cells, e.length = sz := fun e he => by rw [List.eq_of_mem_replicate he]; exact c1
              obtain ⟨cc', e1, e2⟩ := fillRow_sound hR parts.toList ap _ ((List.replicate n zv.cells.toList).flatten.toArray) es hps hrep (by simpa using hzc.replicate n) hf
              obtain ⟨l0, l2⟩ := fillRow_len ap _ es (fun e he => ⟨hrep e he, by rw [List.eq_of_mem_replicate he]; exact c4⟩) hf
              have l1 : ∀ e ∈ es, e.length = sz := fun e he => (l0 e he).1
              simp only [List.length_replicate] at l2
              obtain ⟨φ', h1, h2, h3, h4⟩ := row_new H c2 l1 (fun e he => (l0 e he).2) (vals := cc'.toList) (spare := []) e2 (tot := n) (by
                have := e2.length; rw [fl_len l1] at this; simp only [List.length_nil, Nat.add_zero]; rw [← this, l2]) e
              refine ⟨.slice (some ⟨w.heap.size, 0, none⟩) n n, _, φ', ?_, ?_, h3, h1, h4⟩
              · have hnz : ¬ (n * sz > 2 ^ 24) := by omega
                have hmap : (parts.map fun (i, x) => (i, a.eval x)).toList = parts.toList.map fun p => (p.1, a.eval p.2) := by simp
                unfold Instr.buildSlice
                simp only [Sem.run_bind, run_underlying hu, Result.andThen_ok, run_sizeT hs, hnz, if_false, hmap]
                by_cases hn : n * sz = 0
                · have hn0 : n = 0 := by
                    rcases Nat.mul_eq_zero.1 hn with h0 | h0
                    · exact h0
                    · omega
                  subst hn0
                  simp only [List.replicate_zero, List.flatten_nil] at e1
                  have e0 : ∀ f : Nat → Value, Array.map f (Array.range 0) = #[] := fun f => by simp
                  simp [e0, e1, Go.newRow]
                · rw [if_neg hn]
                  have hzz : ((Array.range (n * sz)).map (zv.cells[· % zv.cells.size]!)) = (List.replicate n zv.cells.toList).flatten.toArray := by
                    rw [← hzl]; exact zero_cells (by omega) n
                  simp only [Sem.run_bind, z1, Result.andThen_ok, Sem.run_pure, hzz]
                  rw [e1]
                  simp [Go.newRow]
              · have := RelV.slc (φ := φ') (s := 0) (len := n) (cap := n) (c := n) (off := 0) (ex := true) h2 (Nat.le_refl _) (by simp only; omega) (by simp only; omega) (Nat.le_refl _) (fun _ => rfl) (fun _ => by simp)
                exact this
  · cases hc


theorem bslice_fill {t : TypeId} {n : Nat} {parts : Array (Nat × Operand)} {op : AOp} {hp : AHeap} {ob : AObj} (hR : RelR φ N ρ a.tmps) (H : RelH P B φ h w) (hc : compRaw P (.buildSlice t n parts) = some op) (he : evalA ρ hp op = some (v, hp.push ob)) (hg : B.gh hp.sz = some ob) :
    SimV P (B.del hp.sz) φ h v w ((Instr.buildSlice t n (parts.map fun (i, x) => (i, a.eval x))).run P w) := by
  simp only [compRaw, Option.bind_eq_bind, Option.pure_def] at hc
  split at hc
  · rename_i e hu
    cases hs : sizeT P e with
    | none => simp [hs] at hc
    | some sz =>
      cases hz : zeroT P e with
      | none => simp [hs, hz] at hc
      | some z =>
        cases hps : partsSl parts.toList with
        | none => simp [hs, hz, hps] at hc
        | some ap =>
          simp [hs, hz, hps] at hc; subst hc
          simp only [evalA] at he
          cases hcnd : (Nat.beq z.cells.length sz && Nat.blt 0 sz && Nat.ble (n * sz) 16777216 && allLeaf z.cells) with
          | false => rw [hcnd] at he; cases he
          | true =>
            rw [hcnd, cond_true] at he
            simp only [Bool.and_eq_true, nbeq_true, nblt_true, nble_true] at hcnd
            obtain ⟨⟨⟨c1, c2⟩, c3⟩, c4⟩ := hcnd
            rw [repl_eq] at he
            cases hf : fillRow ρ sz (List.replicate n z.cells) ap with
            | none => simp [hf] at he
            | some es =>
              rw [hf] at he
              simp only [Option.some.injEq, Prod.mk.injEq] at he
              obtain ⟨rfl, he⟩ := he
              have hob := push_inj he
              subst hob
              obtain ⟨zv, it, z1, z2, z3, z4⟩ := run_zeroT hz w
              have hzc := cells_avOf (φ := φ) z2
              have hzl : zv.cells.size = sz := by have := hzc.length; simp only [Array.length_toList] at this; omega
              have hrep : ∀ e ∈ List.replicate n z.cells, e.length = sz := fun e he => by rw [List.eq_of_mem_replicate he]; exact c1
              obtain ⟨cc', e1, e2⟩ := fillRow_sound hR parts.toList ap _ ((List.replicate n zv.cells.toList).flatten.toArray) es hps hrep (by simpa using hzc.replicate n) hf
              obtain ⟨l0, l2⟩ := fillRow_len ap _ es (fun e he => ⟨hrep e he, by rw [List.eq_of_mem_replicate he]; exact c4⟩) hf
              have l1 : ∀ e ∈ es, e.length = sz := fun e he => (l0 e he).1
              simp only [List.length_replicate] at l2
              obtain ⟨φ', h1, h2, h3, h4⟩ := row_fillT H c2 l1 (fun e he => (l0 e he).2) (vals := cc'.toList) (spare := []) e2 (tot := n) (by
                have := e2.length; rw [fl_len l1] at this; simp only [List.length_nil, Nat.add_zero]; rw [← this, l2]) e none (fun _ e => by cases e) hg
              refine ⟨.slice (some ⟨w.heap.size, 0, none⟩) n n, _, φ', ?_, ?_, h3, h1, h4⟩
              · have hnz : ¬ (n * sz > 2 ^ 24) := by omega
                have hmap : (parts.map fun (i, x) => (i, a.eval x)).toList = parts.toList.map fun p => (p.1, a.eval p.2) := by simp
                unfold Instr.buildSlice
                simp only [Sem.run_bind, run_underlying hu, Result.andThen_ok, run_sizeT hs, hnz, if_false, hmap]
                by_cases hn : n * sz = 0
                · have hn0 : n = 0 := by
                    rcases Nat.mul_eq_zero.1 hn with h0 | h0
                    · exact h0
                    · omega
                  subst hn0
                  simp only [List.replicate_zero, List.flatten_nil] at e1
                  have e0 : ∀ f : Nat → Value, Array.map f (Array.range 0) = #[] := fun f => by simp
                  simp [e0, e1, Go.newRow]
                · rw [if_neg hn]
                  have hzz : ((Array.range (n * sz)).map (zv.cells[· % zv.cells.size]!)) = (List.replicate n zv.cells.toList).flatten.toArray := by
                    rw [← hzl]; exact zero_cells (by omega) n
                  simp only [Sem.run_bind, z1, Result.andThen_ok, Sem.run_pure, hzz]
                  rw [e1]
                  simp [Go.newRow]
              · have := RelV.slc (φ := φ') (s := 0) (len := n) (cap := n) (c := n) (off := 0) (ex := true) h2 (Nat.le_refl _) (by simp only; omega) (by simp only; omega) (Nat.le_refl _) (fun _ => rfl) (fun _ => by simp)
                exact this
  · cases hc


/-! ### Addresses, cuts, lengths -/
theorem asNat_sound {x : AV} {cx : Value} {n : Nat} (hx : RelV φ x cx) (he : asNat x = some n) : ∃ k, cx = .int k n := by
  unfold asNat at he
  split at he
  · cases he; cases hx; exact ⟨_, rfl⟩
  · cases he


theorem fadr_sound {off f : Nat} {x v : AV} {cx : Value} {t : TypeId} {fs : Array Field} {fl : Field} {m : Nat} (hu : P.underlying t = some (.struct fs)) (hf : fs[f]? = some fl) (hoff : fl.offset = off) (hm : sizeT P fl.type = some (m + 1))
    (hx : RelV φ x cx) (he : fadrA off x = some v) : ∃ cv, (Instr.fieldAt t cx f).run P w = .ok cv w ∧ RelV φ v cv := by
  unfold fadrA at he
  split at he
  · rename_i id g i o
    cases he
    cases hx with
    | ptr hL hi =>
      rename_i L
      refine ⟨.pointer (some ⟨L.blk, L.base + i * L.sz + (o + off), none⟩), ?_, .ptr hL hi⟩
      simp only [Instr.fieldAt, Sem.run_bind, run_underlying hu, Result.andThen_ok, hf, Instr.sureAddr, Sem.run_pure, fieldPlace, run_sizeT hm]
      simp [Addr.add_lit, hoff, Nat.add_assoc]
  · cases he

theorem rowSz_loc {id sz : Nat} (H : RelH P B φ h w) (hs : rowSz h id sz = true) {g : Nat} {L : Loc} (hL : φ id g = some L) : L.sz = sz := by
  unfold rowSz at hs
  cases hr : h.row id with
  | none => rw [hr] at hs; cases hs
  | some r =>
    rw [hr] at hs
    have hrow : RelRow φ id r w := H.obj id _ (AHeap.row_some.1 hr)
    rw [(hrow.gen g L hL).2]
    exact nbeq_true.1 hs

theorem iadr_sound {x i v : AV} {cx ci : Value} {t e : TypeId} {sz : Nat} (hu : P.underlying t = some (.slice e)) (hs : sizeT P e = some sz) (H : RelH P B φ h w) (hx : RelV φ x cx) (hi : RelV φ i ci) (he : iadrA h sz x i = some v) :
    ∃ cv, (Instr.indexAt t cx ci).run P w = .ok cv w ∧ RelV φ v cv := by
  unfold iadrA at he
  split at he
  · rename_i id g s len cap ex
    cases hn : asNat i with
    | none => simp [hn] at he
    | some n =>
      rw [hn] at he
      simp only at he
      cases hc : (Nat.blt n len && rowSz h id sz) with
      | false => rw [hc] at he; cases he
      | true =>
        rw [hc, cond_true] at he; cases he
        simp only [Bool.and_eq_true, nblt_true] at hc
        obtain ⟨k, rfl⟩ := asNat_sound hi hn
        cases hx with
        | slc hL h1 h2 h3 h4 h5 h6 =>
          rename_i c off L
          have hsz := rowSz_loc H hc.2 hL
          have hoff := h6 (by omega)
          refine ⟨.pointer (some ⟨L.blk, L.base + (s + n) * L.sz + 0, none⟩), ?_, .ptr hL (by omega)⟩
          have hin : (0 : Int) ≤ (n : Int) ∧ (n : Int) < (len : Int) := ⟨by omega, by omega⟩
          simp only [Instr.indexAt, asIntOf, Sem.run_bind, Sem.run_pure, run_underlying hu, Result.andThen_ok, hin, and_self, if_true, run_sizeT hs, Int.toNat_natCast, Addr.add_lit, hoff, ← hsz, Nat.add_zero, Nat.add_mul, Nat.add_assoc]
  · cases he

theorem iadra_sound {x i v : AV} {cx ci : Value} {t e : TypeId} {n m : Nat} (hu : P.underlying t = some (.array n e)) (hs : sizeT P e = some m) (hx : RelV φ x cx) (hi : RelV φ i ci) (he : iadraA n m x i = some v) :
    ∃ cv, (Instr.indexAt t cx ci).run P w = .ok cv w ∧ RelV φ v cv := by
  unfold iadraA at he
  split at he
  · rename_i id g j o
    cases hn : asNat i with
    | none => simp [hn] at he
    | some k =>
      rw [hn] at he
      simp only at he
      cases hc : Nat.blt k n with
      | false => rw [hc] at he; cases he
      | true =>
        rw [hc, cond_true] at he; cases he
        obtain ⟨kd, rfl⟩ := asNat_sound hi hn
        cases hx with
        | ptr hL hlt =>
          rename_i L
          have hk := nblt_true.1 hc
          have hin : (0 : Int) ≤ (k : Int) ∧ (k : Int) < (n : Int) := ⟨by omega, by omega⟩
          refine ⟨.pointer (some ⟨L.blk, L.base + j * L.sz + (o + k * m), none⟩), ?_, .ptr hL hlt⟩
          simp only [Instr.indexAt, asIntOf, Sem.run_bind, Sem.run_pure, run_underlying hu, Result.andThen_ok, Instr.sureAddr, hin, and_self, if_true, run_sizeT hs, Int.toNat_natCast, Addr.add_lit, Nat.add_assoc]
  · cases he

theorem idxs_sound {x i v : AV} {cx ci : Value} {t : TypeId} (hu : P.underlying t = some .string) (hx : RelV φ x cx) (hi : RelV φ i ci) (he : idxsA x i = some v) :
    ∃ cv, (Instr.index t cx ci).run P w = .ok cv w ∧ RelV φ v cv := by
  unfold idxsA at he
  split at he
  · rename_i l
    cases hn : asNat i with
    | none => simp [hn] at he
    | some k =>
      rw [hn] at he
      simp only [nth_eq] at he
      cases hb : l[k]? with
      | none => simp [hb] at he
      | some b =>
        rw [hb] at he; cases he
        obtain ⟨kd, rfl⟩ := asNat_sound hi hn
        cases hx with
        | str hs =>
          rename_i s
          rw [← hs, List.getElem?_map] at hb
          cases hu8 : s.data.toList[k]? with
          | none => simp [hu8] at hb
          | some u =>
            rw [hu8] at hb; simp at hb; subst hb
            have hget : s[k]? = some u := by
              have hlt : k < s.size := by
                have := (List.getElem?_eq_some_iff.1 hu8).1
                simpa using this
              rw [getElem?_pos s k hlt]
              have : s.data.toList[k]? = some s[k] := by
                rw [List.getElem?_eq_getElem (by simpa using hlt)]
                rfl
              rw [hu8] at this
              exact this.symm ▸ rfl
            refine ⟨.int .u8 u.toNat, ?_, .int _ _⟩
            have h0 : (0 : Int) ≤ (k : Int) := by omega
            simp only [Instr.index, asIntOf, Sem.run_bind, Sem.run_pure, run_underlying hu, Result.andThen_ok, h0, if_true, Int.toNat_natCast, hget]
  · cases he

theorem idxa_sound {ag : Bool} {n m : Nat} {x i v : AV} {cx ci : Value} {t e : TypeId} (hu : P.underlying t = some (.array n e)) (hag : isAggT P e = some ag) (hs : sizeT P e = some m) (hx : RelV φ x cx) (hi : RelV φ i ci) (he : idxaA ag n m x i = some v) :
    ∃ cv, (Instr.index t cx ci).run P w = .ok cv w ∧ RelV φ v cv := by
  unfold idxaA at he
  split at he
  · rename_i l
    cases hn : asNat i with
    | none => simp [hn] at he
    | some k =>
      rw [hn] at he
      simp only at he
      cases hc : Nat.blt k n with
      | false => rw [hc] at he; cases he
      | true =>
        rw [hc, cond_true] at he
        obtain ⟨kd, rfl⟩ := asNat_sound hi hn
        cases hx with
        | agg hl =>
          rename_i cs
          have hk := nblt_true.1 hc
          have hin : (0 : Int) ≤ (k : Int) ∧ (k : Int) < (n : Int) := ⟨by omega, by omega⟩
          obtain ⟨cv, h1, h2⟩ := part_sound (w := w) hl he hag hs
          refine ⟨cv, ?_, h2⟩
          simp only [Instr.index, asIntOf, Sem.run_bind, Sem.run_pure, run_underlying hu, Result.andThen_ok, hin, and_self, if_true, run_sizeT hs, Int.toNat_natCast, h1]
  · cases he

theorem fld_sound {ag : Bool} {off n f : Nat} {x v : AV} {cx : Value} {t : TypeId} {fs : Array Field} {fl : Field} (hu : P.underlying t = some (.struct fs)) (hf : fs[f]? = some fl) (hoff : fl.offset = off) (hag : isAggT P fl.type = some ag)
    (hn : sizeT P fl.type = some n) (hx : RelV φ x cx) (he : fldA ag off n x = some v) : ∃ cv, (Instr.field t cx f).run P w = .ok cv w ∧ RelV φ v cv := by
  unfold fldA at he
  split at he
  · cases hx with
    | agg hl =>
      obtain ⟨cv, h1, h2⟩ := part_sound (w := w) hl he hag hn
      refine ⟨cv, ?_, h2⟩
      simp only [Instr.field, Sem.run_bind, run_underlying hu, Result.andThen_ok, hf, asAgg, Sem.run_pure, hoff, h1]
  · cases he

theorem ext_sound {i : Nat} {x v : AV} {cx : Value} (hx : RelV φ x cx) (he : extA i x = some v) : ∃ cv, (Instr.extract cx i).run P w = .ok cv w ∧ RelV φ v cv := by
  unfold extA at he
  split at he
  · cases hx with
    | tup hl =>
      rw [nth_eq] at he
      obtain ⟨cv, h1, h2⟩ := hl.get he
      have h3 : (⟨‹List Value›⟩ : Array Value)[i]? = some cv := by simpa using h1
      exact ⟨cv, by simp [Instr.extract, h3], h2⟩
  · cases he

theorem nilck_sound {x v : AV} {cx : Value} (hx : RelV φ x cx) (he : nilckA x = some v) : v = x ∧ cx ≠ .pointer none ∧ cx ≠ .nilFunc ∧ cx ≠ .nilIface ∧ (∀ m a b, cx ≠ .func (.method m) a b) := by
  unfold nilckA at he
  split at he
  · cases he
  · cases he
  · cases he
  · rename_i h1 h2 h3
    cases he
    refine ⟨rfl, ?_, ?_, ?_, ?_⟩
    · rintro rfl; cases hx; exact h1 rfl
    · rintro rfl; cases hx; exact h2 rfl
    · rintro rfl; cases hx; exact h3 rfl
    · rintro m a b rfl; cases hx

theorem conv_sound {k : IntKind} {x v : AV} {cx : Value} {s d : TypeId} {ks : IntKind} (hs : P.underlying s = some (.int ks)) (hd : P.underlying d = some (.int k)) (hx : RelV φ x cx) (he : convA k x = some v) :
    ∃ cv, (convert s d cx).run P w = .ok cv w ∧ RelV φ v cv := by
  unfold convA at he
  split at he
  · rename_i k0 n
    cases he
    cases hx
    exact ⟨.int k (k.wrap n), by simp [convert, Sem.run_bind, run_underlying hs, run_underlying hd, Conv.intToInt], by rw [wrapA_eq]; exact .int _ _⟩
  · cases he

theorem not_sound {x v : AV} {cx : Value} (hx : RelV φ x cx) (he : notA x = some v) : ∃ cv, (Op.unary .not cx).run P w = .ok cv w ∧ RelV φ v cv := by
  unfold notA at he
  split at he
  · cases he; cases hx; exact ⟨.bool _, by simp [Op.unary], .bool _⟩
  · cases he

theorem neg_sound {x v : AV} {cx : Value} (hx : RelV φ x cx) (he : negA x = some v) : ∃ cv, (Op.unary .neg cx).run P w = .ok cv w ∧ RelV φ v cv := by
  unfold negA at he
  split at he
  · cases he; cases hx; exact ⟨_, unops, by rw [wrapA_eq]; exact .int _ _⟩
  · cases he

theorem cap_sound {x v : AV} {cx : Value} {t ty : TypeId} {e : TypeId} (hu : P.underlying t = some (.slice e)) (hx : RelV φ x cx) (he : capA x = some v) : ∃ cv, (Builtin.cap_ #[t] ty #[cx]).run P w = .ok cv w ∧ RelV φ v cv := by
  unfold capA at he
  split at he
  · cases he; cases hx
    exact ⟨.int .i64 0, by simp [Builtin.cap_, Sem.run_bind, run_underlying hu, goInt], .int _ _⟩
  · cases he; cases hx
    exact ⟨.int .i64 0, by simp [Builtin.cap_, Sem.run_bind, run_underlying hu, goInt], .int _ _⟩
  · cases he
    cases hx with
    | slc hL h1 h2 h3 h4 h5 h6 =>
      have := h5 rfl; subst this
      exact ⟨.int .i64 _, by simp [Builtin.cap_, Sem.run_bind, run_underlying hu, goInt], .int _ _⟩
  · cases he

theorem optOf_sound {x : Option Operand} {y : Option Opd} (hx : optOf x = some y) : (x = none ∧ y = none) ∨ ∃ a b, x = some a ∧ y = some b ∧ opdOf a = some b := by
  cases x with
  | none => simp [optOf] at hx; subst hx; exact .inl ⟨rfl, rfl⟩
  | some a =>
    simp only [optOf] at hx
    cases ha : opdOf a with
    | none => simp [ha] at hx
    | some b => simp [ha] at hx; subst hx; exact .inr ⟨a, b, rfl, rfl, ha⟩

/-- A bound of a cut: its number, where it is given. -/
theorem evNat_sound (hR : RelR φ N ρ a.tmps) {x : Option Operand} {y : Option Opd} (hx : optOf x = some y) {d n : Nat} (he : evNat ρ d y = some n) :
    (x.map a.eval = none ∧ y = none ∧ n = d) ∨ ∃ k, x.map a.eval = some (.int k n) ∧ y.isSome = true := by
  rcases optOf_sound hx with ⟨rfl, rfl⟩ | ⟨p, q, rfl, rfl, hpq⟩
  · simp [evNat] at he; exact .inl ⟨rfl, rfl, he.symm⟩
  · simp only [evNat] at he
    cases hv : ev ρ q with
    | none => simp [hv] at he
    | some v =>
      rw [hv] at he
      obtain ⟨k, hk⟩ := asNat_sound (ev_opd hR hpq hv) he
      exact .inr ⟨k, by simp [hk], rfl⟩

theorem run_bound (k : IntKind) (n y : Nat) (code : BoundsCode) (hle : n ≤ y) : (Instr.sliceBound (.int k n) y code).run P w = .ok n w := by
  have : (0 : Int) ≤ (n : Int) ∧ (n : Int) ≤ (y : Int) := ⟨by omega, by omega⟩
  simp [Instr.sliceBound, asIntOf, this]

theorem run_bound0 (k : IntKind) (code : BoundsCode) : (Instr.sliceBound (.int k 0) 0 code).run P w = .ok 0 w := by
  simp [Instr.sliceBound, asIntOf]

theorem sliceS_sound {t : TypeId} (hR : RelR φ N ρ a.tmps) (hu : P.underlying t = some .string) {x v : AV} {cx : Value} (hx : RelV φ x cx) {lo hi : Option Operand} {lo' hi' : Option Opd} (hlo : optOf lo = some lo') (hhi : optOf hi = some hi')
    (he : sliceS ρ x lo' hi' = some v) : ∃ cv, (Instr.sliceAt t cx (lo.map a.eval) (hi.map a.eval) none).run P w = .ok cv w ∧ RelV φ v cv := by
  unfold sliceS at he
  split at he
  · rename_i l
    cases hx with
    | str hs =>
      rename_i s
      have hsz := str_size hs
      split at he
      · rename_i hn ln e1 e2
        cases hc : (Nat.ble ln hn && Nat.ble hn l.length) with
        | false => rw [hc] at he; cases he
        | true =>
          rw [hc, cond_true] at he; cases he
          simp only [Bool.and_eq_true, nble_true] at hc
          refine ⟨.string (s.extract ln hn), ?_, .str ?_⟩
          · have hb : (Instr.sliceBounds false s.size s.size (lo.map a.eval) (hi.map a.eval) none).run P w = .ok (ln, hn, s.size) w := by
              unfold Instr.sliceBounds
              rcases evNat_sound hR hhi e1 with ⟨a1, _, a2⟩ | ⟨k, a1, _⟩ <;> rcases evNat_sound hR hlo e2 with ⟨b1, _, b2⟩ | ⟨k', b1, _⟩
              · rw [a1, b1]; simp [a2, b2, hsz]
              · rw [a1, b1]; simp [a2, hsz, run_bound (P := P) (w := w) k' ln l.length .sliceB (by omega)]
              · rw [a1, b1]; simp [b2, hsz, run_bound (P := P) (w := w) k hn l.length .sliceAlen (by omega)]
              · rw [a1, b1]; simp [hsz, run_bound (P := P) (w := w) k hn l.length .sliceAlen (by omega), run_bound (P := P) (w := w) k' ln hn .sliceB (by omega)]
            simp only [Instr.sliceAt, Instr.slice, Sem.run_bind, run_underlying hu, Result.andThen_ok, Option.isSome_none, Bool.false_eq_true, if_false, hb, Sem.run_pure]
          · rw [← hs]
            simp [List.map_take, List.map_drop, ByteArray.data_extract, List.extract_eq_take_drop, List.drop_take]
      · cases he
  · cases he

theorem slice_sound {t e : TypeId} {sz : Nat} (hR : RelR φ N ρ a.tmps) (H : RelH P B φ h w) (hu : P.underlying t = some (.slice e)) (hsz : sizeT P e = some sz) {x v : AV} {cx : Value} (hx : RelV φ x cx)
    {lo hi mx : Option Operand} {lo' hi' mx' : Option Opd} (hlo : optOf lo = some lo') (hhi : optOf hi = some hi') (hmx : optOf mx = some mx')
    (he : sliceA ρ h sz x lo' hi' mx' = some v) : ∃ cv, (Instr.sliceAt t cx (lo.map a.eval) (hi.map a.eval) (mx.map a.eval)).run P w = .ok cv w ∧ RelV φ v cv := by
  have fin : ∀ (A : Option Addr) (len cap l hh m : Nat), (Instr.sliceBounds true len cap (lo.map a.eval) (hi.map a.eval) (mx.map a.eval)).run P w = .ok (l, hh, m) w →
      (Instr.sliceAt t (.slice A len cap) (lo.map a.eval) (hi.map a.eval) (mx.map a.eval)).run P w = .ok (.slice (if m = l then A else A.map (·.add (l * sz))) (hh - l) (m - l)) w := by
    intro A len cap l hh m hb
    simp only [Instr.sliceAt, Instr.slice, Sem.run_bind, run_underlying hu, Result.andThen_ok, hb, run_sizeT hsz, Sem.run_pure]
  unfold sliceA at he
  split at he
  · rename_i id g s len cap ex
    cases hrs : rowSz h id sz with
    | false => rw [hrs] at he; cases he
    | true =>
      rw [hrs, cond_true] at he
      cases hx with
      | slc hL h1 h2 h3 h4 h5 h6 =>
        rename_i c off L
        have hLs := rowSz_loc H hrs hL
        split at he
        · rename_i mo
          split at he
          · rename_i mn hn ln e0 e1 e2
            cases hc : (Nat.ble ln hn && Nat.ble hn mn && Nat.ble mn cap && hi'.isSome) with
            | false => rw [hc] at he; cases he
            | true =>
              rw [hc, cond_true] at he; cases he
              simp only [Bool.and_eq_true, nble_true] at hc
              obtain ⟨⟨⟨c1, c2⟩, c3⟩, c4⟩ := hc
              have hb : (Instr.sliceBounds true len c (lo.map a.eval) (hi.map a.eval) (mx.map a.eval)).run P w = .ok (ln, hn, mn) w := by
                unfold Instr.sliceBounds
                rcases evNat_sound hR hmx e0 with ⟨_, a2, _⟩ | ⟨km, m1, _⟩
                · cases a2
                rcases evNat_sound hR hhi e1 with ⟨_, a2, _⟩ | ⟨k, a1, _⟩
                · rw [a2] at c4; cases c4
                rcases evNat_sound hR hlo e2 with ⟨b1, _, b2⟩ | ⟨k', b1, _⟩
                · rw [m1, a1, b1]; simp [b2, run_bound (P := P) (w := w) km mn c .slice3Acap (by omega), run_bound (P := P) (w := w) k hn mn .slice3B (by omega)]
                · rw [m1, a1, b1]; simp [run_bound (P := P) (w := w) km mn c .slice3Acap (by omega), run_bound (P := P) (w := w) k hn mn .slice3B (by omega), run_bound (P := P) (w := w) k' ln hn .slice3C (by omega)]
              refine ⟨_, fin _ _ _ _ _ _ hb, ?_⟩
              by_cases hml : mn = ln
              · rw [if_pos hml]
                exact .slc hL (by omega) (by omega) (by omega) (Nat.le_refl _) (fun _ => rfl) (fun hpos => by omega)
              · rw [if_neg hml]
                simp only [Option.map_some, Addr.add_lit]
                exact .slc hL (by omega) (by omega) (by omega) (Nat.le_refl _) (fun _ => rfl) (fun hpos => by rw [h6 (by omega), hLs, Nat.add_mul, Nat.add_assoc])
          · cases he
        · split at he
          · rename_i hn ln e1 e2
            cases hc : (Nat.ble ln hn && Nat.ble hn cap) with
            | false => rw [hc] at he; cases he
            | true =>
              rw [hc, cond_true] at he; cases he
              simp only [Bool.and_eq_true, nble_true] at hc
              obtain ⟨c1, c2⟩ := hc
              have hmn : mx.map a.eval = none := by
                rcases optOf_sound hmx with ⟨rfl, _⟩ | ⟨_, _, _, e, _⟩
                · rfl
                · cases e
              have hb : (Instr.sliceBounds true len c (lo.map a.eval) (hi.map a.eval) (mx.map a.eval)).run P w = .ok (ln, hn, c) w := by
                unfold Instr.sliceBounds
                rw [hmn]
                rcases evNat_sound hR hhi e1 with ⟨a1, _, a2⟩ | ⟨k, a1, _⟩ <;> rcases evNat_sound hR hlo e2 with ⟨b1, _, b2⟩ | ⟨k', b1, _⟩
                · rw [a1, b1]; simp [a2, b2]
                · rw [a1, b1]; simp [a2, run_bound (P := P) (w := w) k' ln len .sliceB (by omega)]
                · rw [a1, b1]; simp [b2, run_bound (P := P) (w := w) k hn c .sliceAcap (by omega)]
                · rw [a1, b1]; simp [run_bound (P := P) (w := w) k hn c .sliceAcap (by omega), run_bound (P := P) (w := w) k' ln hn .sliceB (by omega)]
              refine ⟨_, fin _ _ _ _ _ _ hb, ?_⟩
              by_cases hml : c = ln
              · rw [if_pos hml]
                exact .slc hL (by omega) (by omega) (by omega) (by omega) (fun hx => by have := h5 hx; omega) (fun hpos => by omega)
              · rw [if_neg hml]
                simp only [Option.map_some, Addr.add_lit]
                exact .slc hL (by omega) (by omega) (by omega) (by omega) (fun hx => by have := h5 hx; omega) (fun hpos => by rw [h6 (by omega), hLs, Nat.add_mul, Nat.add_assoc])
          · cases he
  · cases hx
    split at he
    · rename_i e0 e1 e2
      cases hc : (mx'.isNone || hi'.isSome) with
      | false => rw [hc] at he; cases he
      | true =>
        rw [hc, cond_true] at he; cases he
        have hb : (Instr.sliceBounds true 0 0 (lo.map a.eval) (hi.map a.eval) (mx.map a.eval)).run P w = .ok (0, 0, 0) w := by
          unfold Instr.sliceBounds
          rcases evNat_sound hR hmx e0 with ⟨m1, _, _⟩ | ⟨km, m1, m2⟩ <;> rcases evNat_sound hR hhi e1 with ⟨a1, a2, _⟩ | ⟨k, a1, _⟩ <;> rcases evNat_sound hR hlo e2 with ⟨b1, _, b2⟩ | ⟨k', b1, _⟩
          · rw [m1, a1, b1]; simp
          · rw [m1, a1, b1]; simp [run_bound0 (P := P) (w := w) k' .sliceB]
          · rw [m1, a1, b1]; simp [run_bound0 (P := P) (w := w) k .sliceAcap]
          · rw [m1, a1, b1]; simp [run_bound0 (P := P) (w := w) k .sliceAcap, run_bound0 (P := P) (w := w) k' .sliceB]
          · exfalso; rw [a2] at hc; cases mx' <;> simp at hc m2
          · exfalso; rw [a2] at hc; cases mx' <;> simp at hc m2
          · rw [m1, a1, b1]; simp [run_bound0 (P := P) (w := w) km .slice3Acap, run_bound0 (P := P) (w := w) k .slice3B]
          · rw [m1, a1, b1]; simp [run_bound0 (P := P) (w := w) km .slice3Acap, run_bound0 (P := P) (w := w) k .slice3B, run_bound0 (P := P) (w := w) k' .slice3C]
        exact ⟨_, fin _ _ _ _ _ _ hb, by simpa using RelV.nilSlc⟩
    · cases he
  · cases hx
    rename_i A
    split at he
    · rename_i e0 e1 e2
      cases hc : (mx'.isNone || hi'.isSome) with
      | false => rw [hc] at he; cases he
      | true =>
        rw [hc, cond_true] at he; cases he
        have hb : (Instr.sliceBounds true 0 0 (lo.map a.eval) (hi.map a.eval) (mx.map a.eval)).run P w = .ok (0, 0, 0) w := by
          unfold Instr.sliceBounds
          rcases evNat_sound hR hmx e0 with ⟨m1, _, _⟩ | ⟨km, m1, m2⟩ <;> rcases evNat_sound hR hhi e1 with ⟨a1, a2, _⟩ | ⟨k, a1, _⟩ <;> rcases evNat_sound hR hlo e2 with ⟨b1, _, b2⟩ | ⟨k', b1, _⟩
          · rw [m1, a1, b1]; simp
          · rw [m1, a1, b1]; simp [run_bound0 (P := P) (w := w) k' .sliceB]
          · rw [m1, a1, b1]; simp [run_bound0 (P := P) (w := w) k .sliceAcap]
          · rw [m1, a1, b1]; simp [run_bound0 (P := P) (w := w) k .sliceAcap, run_bound0 (P := P) (w := w) k' .sliceB]
          · exfalso; rw [a2] at hc; cases mx' <;> simp at hc m2
          · exfalso; rw [a2] at hc; cases mx' <;> simp at hc m2
          · rw [m1, a1, b1]; simp [run_bound0 (P := P) (w := w) km .slice3Acap, run_bound0 (P := P) (w := w) k .slice3B]
          · rw [m1, a1, b1]; simp [run_bound0 (P := P) (w := w) km .slice3Acap, run_bound0 (P := P) (w := w) k .slice3B, run_bound0 (P := P) (w := w) k' .slice3C]
        exact ⟨_, fin _ _ _ _ _ _ hb, by simpa using RelV.emp⟩
    · cases he
  · cases he

theorem mm_sound {mx : Bool} : ∀ {l : List AV} {x v : AV} {cx : Value} {m : List Value}, RelV φ x cx → RelVs φ l m → mmA mx x l = some v →
    ∃ cv, (m.foldlM (if mx then Builtin.max2 else Builtin.min2) cx).run P w = .ok cv w ∧ RelV φ v cv
  | [], x, v, cx, m, hx, hl, he => by
    cases hl
    cases x <;> simp [mmA] at he
    subst he
    exact ⟨cx, by simp, hx⟩
  | y :: l, x, v, cx, m, hx, hl, he => by
    cases hl with
    | cons hy ht =>
      cases x <;> cases y <;> simp only [mmA] at he <;> try (cases he; done)
      rename_i k a j b
      cases hk : Nat.beq (kidx k) (kidx j) with
      | false => rw [hk] at he; cases he
      | true =>
        rw [hk, cond_true] at he
        have := kidx_inj (nbeq_true.1 hk); subst this
        cases hx; cases hy
        obtain ⟨cv, h1, h2⟩ := mm_sound (.int _ _) ht he
        refine ⟨cv, ?_, h2⟩
        cases mx with
        | true =>
          simp only [if_true, List.foldlM_cons, Sem.run_bind, Builtin.max2, Sem.run_pure, Result.andThen_ok] at h1 ⊢
          rw [← h1]
          congr 3
          rw [cond_true, iltb_eq]
          by_cases hab : a < b <;> simp [hab]
        | false =>
          simp only [Bool.false_eq_true, if_false, List.foldlM_cons, Sem.run_bind, Builtin.min2, Sem.run_pure, Result.andThen_ok] at h1 ⊢
          rw [← h1]
          congr 3
          rw [cond_false, iltb_eq]
          by_cases hab : b < a <;> simp [hab]

end
end Go.Ab
