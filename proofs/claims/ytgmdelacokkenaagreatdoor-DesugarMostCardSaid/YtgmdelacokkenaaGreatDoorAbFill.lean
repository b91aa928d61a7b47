/-
  What makes something new may come up ahead of its turn: first without a block, then with one.
-/
import Derived.Test.YtgmdelacokkenaaGreatDoorAbCongr
namespace Go.Ab
noncomputable section
set_option linter.unusedSimpArgs false
set_option linter.unusedVariables false

section
variable {P : Program} {B : Base} {φ : Phi} {h h' : AHeap} {w : World} {v : AV} {N : Nat} {ρ : Regs} {a : Act}

theorem early_ops {o : Oper} (he : earlyO o = true) : o.guard = none ∧ ((∃ t, o.op = .alloc t) ∨ (∃ t x, o.op = .box t x) ∨ (∃ t, o.op = .makeMap t none) ∨ (∃ t l c, o.op = .makeSlice t l c) ∨ ∃ t n ps, o.op = .buildSlice t n ps) := by
  unfold earlyO at he
  split at he
  · cases he
  · rename_i hg
    refine ⟨hg, ?_⟩
    split at he
    · rename_i t ho; exact .inl ⟨t, ho⟩
    · rename_i t x ho; exact .inr (.inl ⟨t, x, ho⟩)
    · rename_i t l c ho; exact .inr (.inr (.inr (.inl ⟨t, l, c, ho⟩)))
    · rename_i t n ps ho; exact .inr (.inr (.inr (.inr ⟨t, n, ps, ho⟩)))
    · rename_i t ho; exact .inr (.inr (.inl ⟨t, ho⟩))
    · cases he

/-- How such an operation is compiled. -/
theorem early_comp {o : Oper} {op : AOp} (hc : compOp P o.op = some op) (he : earlyO o = true) :
    (∃ t z, o.op = .alloc t ∧ zeroT P t = some z ∧ op = bif isNoted z.cells then .allot t z.cells else .alloc z.cells) ∨
    (∃ t x n y, o.op = .box t x ∧ sizeT P t = some n ∧ opdOf x = some y ∧ op = .box (noteT P t) n y) ∨
    (∃ t, o.op = .makeMap t none ∧ op = .mkmap) ∨
    (∃ t l c e sz bytes z x y, o.op = .makeSlice t l c ∧ P.underlying t = some (.slice e) ∧ sizeT P e = some sz ∧ bytesT P e = some bytes ∧ zeroT P e = some z ∧ opdOf l = some x ∧ opdOf c = some y ∧ op = .mksl sz bytes z.cells x y) ∨
    ∃ t n ps m sz z qs, o.op = .buildSlice t n ps ∧ compRaw P (.buildSlice t n ps) = some op ∧ op = .bslice m sz z qs := by
  obtain ⟨_, ⟨t, ho⟩ | ⟨t, x, ho⟩ | ⟨t, ho⟩ | ⟨t, l, c, ho⟩ | ⟨t, n, ps, ho⟩⟩ := early_ops he
  all_goals
    rw [ho] at hc
    simp only [compOp] at hc
    have hr := compChk_raw hc
    have hr0 := hr
    simp only [compRaw] at hr
  · cases hz : zeroT P t with
    | none => rw [hz] at hr; cases hr
    | some z => rw [hz] at hr; cases hr; exact .inl ⟨t, z, ho, hz, rfl⟩
  · cases hs : sizeT P t with
    | none => simp [hs] at hr
    | some n =>
      cases hx : opdOf x with
      | none => simp [hs, hx] at hr
      | some y => simp [hs, hx] at hr; exact .inr (.inl ⟨t, x, n, y, ho, hs, hx, hr.symm⟩)
  · cases hr; exact .inr (.inr (.inl ⟨t, ho, rfl⟩))
  · split at hr
    · rename_i e hu
      cases hs : sizeT P e with
      | none => simp [hs] at hr
      | some sz =>
        cases hb : bytesT P e with
        | none => simp [hs, hb] at hr
        | some bytes =>
          cases hz : zeroT P e with
          | none => simp [hs, hb, hz] at hr
          | some z =>
            cases hl : opdOf l with
            | none => simp [hs, hb, hz, hl] at hr
            | some l' =>
              cases hcc : opdOf c with
              | none => simp [hs, hb, hz, hl, hcc] at hr
              | some c' =>
                simp [hs, hb, hz, hl, hcc] at hr
                exact .inr (.inr (.inr (.inl ⟨t, l, c, e, sz, bytes, z, l', c', ho, hu, hs, hb, hz, hl, hcc, hr.symm⟩)))
    · cases hr
  · split at hr
    · rename_i e hu
      cases hs : sizeT P e with
      | none => simp [hs] at hr
      | some sz =>
        cases hz : zeroT P e with
        | none => simp [hs, hz] at hr
        | some z =>
          cases hps : partsSl ps.toList with
          | none => simp [hs, hz, hps] at hr
          | some ap =>
            simp [hs, hz, hps] at hr
            exact .inr (.inr (.inr (.inr ⟨t, n, ps, n, sz, z.cells, ap, ho, hr0, hr.symm⟩)))
    · cases hr

theorem early_push {o : Oper} {op : AOp} (hc : compOp P o.op = some op) (he : earlyO o = true) (hv : evalA ρ h op = some (v, h')) : isCall op = false ∧ ∃ ob, h' = h.push ob ∧ ob.own = true := by
  rcases early_comp hc he with ⟨t, z, _, hz, rfl⟩ | ⟨t, x, n, y, _, _, _, rfl⟩ | ⟨t, _, rfl⟩ | ⟨t, l, c, e, sz, bytes, z, x, y, _, _, _, _, _, _, _, rfl⟩ | ⟨t, m, ps, n, sz, z, qs, _, _, rfl⟩
  · cases hn : isNoted z.cells with
    | true =>
      rw [hn, cond_true] at hv; rw [cond_true]
      simp only [evalA] at hv
      cases hb : (Nat.blt 0 z.cells.length && allLeaf z.cells) with
      | false => rw [hb] at hv; cases hv
      | true => rw [hb, cond_true] at hv; cases hv; exact ⟨rfl, _, rfl, rfl⟩
    | false =>
      rw [hn, cond_false] at hv; rw [cond_false]
      simp only [evalA] at hv
      obtain ⟨_, ob, h1, h2⟩ := allocA_push hv
      exact ⟨rfl, ob, h1, by rcases h2 with ⟨_, rfl⟩ | ⟨_, rfl⟩ <;> rfl⟩
  · simp only [evalA] at hv
    split at hv
    · rename_i u hu
      unfold boxA at hv
      cases hb : (Nat.beq u.cells.length n && allLeaf u.cells && Nat.blt 0 n) with
      | false => rw [hb] at hv; cases hv
      | true => rw [hb, cond_true] at hv; cases hv; exact ⟨rfl, _, rfl, rfl⟩
    · cases hv
  · simp only [evalA] at hv
    cases hv; exact ⟨rfl, _, rfl, rfl⟩
  · simp only [evalA] at hv
    split at hv
    · obtain ⟨ob, h1, h2⟩ := mkslA_push hv
      exact ⟨rfl, ob, h1, h2⟩
    · cases hv
  · simp only [evalA] at hv
    cases hb : (Nat.beq z.length sz && Nat.blt 0 sz && Nat.ble (n * sz) 16777216 && allLeaf z) with
    | false => rw [hb] at hv; cases hv
    | true =>
      rw [hb, cond_true] at hv
      split at hv
      · cases hv; exact ⟨rfl, _, rfl, rfl⟩
      · cases hv

/-- The block of one that came ahead. -/
theorem early_fill {o : Oper} {op : AOp} {hp : AHeap} {ob : AObj} (hR : RelR φ N ρ a.tmps) (H : RelH P B φ h w) (hc : compOp P o.op = some op) (he : earlyO o = true) (hv : evalA ρ hp op = some (v, hp.push ob)) (hg : B.gh hp.sz = some ob) :
    Sim P (B.del hp.sz) φ h v w ((execOp a.eval o).run P w) := by
  rcases early_comp hc he with ⟨t, z, ho, hz, rfl⟩ | ⟨t, x, n, y, ho, hs, hx, rfl⟩ | ⟨t, ho, rfl⟩ | ⟨t, l, c, e, sz, bytes, z, x, y, ho, hu, hs, hb, hz, hl, hcc, rfl⟩ | ⟨t, m, ps, n, sz, z, qs, ho, hraw, rfl⟩
  · cases hn : isNoted z.cells with
    | true =>
      rw [hn, cond_true] at hv
      simp only [evalA] at hv
      cases hb : (Nat.blt 0 z.cells.length && allLeaf z.cells) with
      | false => rw [hb] at hv; cases hv
      | true =>
        rw [hb, cond_true] at hv
        simp only [Option.some.injEq, Prod.mk.injEq] at hv
        obtain ⟨rfl, e⟩ := hv
        have hob := push_inj e
        subst hob
        simp only [execOp, ho]
        exact Sim.ofV (allot_fill H hz rfl hb hg)
    | false =>
      rw [hn, cond_false] at hv
      simp only [evalA] at hv
      simp only [execOp, ho]
      exact Sim.ofV (allocA_fill H hz rfl hv hg)
  · simp only [evalA] at hv
    split at hv
    · rename_i u hu
      unfold boxA at hv
      cases hb : (Nat.beq u.cells.length n && allLeaf u.cells && Nat.blt 0 n) with
      | false => rw [hb] at hv; cases hv
      | true =>
        rw [hb, cond_true] at hv
        simp only [Option.some.injEq, Prod.mk.injEq] at hv
        obtain ⟨rfl, e⟩ := hv
        have hob := push_inj e
        subst hob
        simp only [execOp, ho]
        exact Sim.ofV (box_fillN H (ev_opd hR hx hu) hb hg)
    · cases hv
  · simp only [evalA] at hv
    simp only [Option.some.injEq, Prod.mk.injEq] at hv
    obtain ⟨rfl, e⟩ := hv
    have hob := push_inj e
    subst hob
    have hle := Phi.le_add (φ := φ) (id := hp.sz) (g := 0) ⟨w.heap.size, 0, 0, 0, 0⟩ ((H.ghost _ _ hg).2.2.1 0)
    have hp' := H.fill hg rfl (L := ⟨w.heap.size, 0, 0, 0, 0⟩) (ob := .map #[] 0) rfl (fun ds e => by cases e) ⟨_, #[], Phi.add_same _ _ _ _, heap_alloc_new w _, .nil⟩
    simp only [execOp, ho]
    exact Sim.ofV ⟨.map (some w.heap.size), _, _, by simp [Instr.makeMap], .map (Phi.add_same _ _ _ _), hp', hle, Gw.alloc H.base (fun _ _ _ e => by cases e)⟩
  · simp only [evalA] at hv
    split at hv
    · rename_i u u' h1 h2
      simp only [execOp, ho]
      exact Sim.ofV (mksl_fill H hu hs hb hz (ev_opd hR hl h1) (ev_opd hR hcc h2) hv hg)
    · cases hv
  · simp only [execOp, ho]
    exact Sim.ofV (bslice_fill hR H hraw hv hg)

/-! ### What is known no more -/
theorem RelH.fade {id : Nat} {o : AObj} (H : RelH P B φ h w) (ho : h.get id = some o) (hown : o.own = true) : RelH P (B.del id) φ (h.put id .gone) w := by
  have hlt : id < h.sz := by
    rcases Nat.lt_or_ge id h.sz with h1 | h1
    · exact h1
    · rw [H.gone id h1] at ho; cases ho
  refine ⟨H.base, H.dom, fun a ha => ?_, fun a ob hg hb => ?_, H.lt, fun a ob g L hg hL => ?_, fun a ob a' g g' L L' hg hob hL hL' hblk => ?_, H.nodef, fun a ob hb => ?_⟩
  · rw [AHeap.get_put]
    have hne : a ≠ id := fun e => by subst e; exact absurd hlt (Nat.not_lt.2 ha)
    rw [if_neg hne]; exact H.gone a ha
  · rw [AHeap.get_put] at hg
    by_cases e : a = id
    · rw [if_pos e] at hg; cases hg; trivial
    · rw [if_neg e] at hg
      rw [Base.del_other _ e] at hb
      exact H.objn a ob hg hb
  · rw [AHeap.get_put] at hg
    by_cases e : a = id
    · rw [if_pos e] at hg; cases hg
      subst e
      exact ⟨fun _ => (H.own a o g L ho hL).1 hown, fun e => by cases e⟩
    · rw [if_neg e] at hg
      exact H.own a ob g L hg hL
  · rw [AHeap.get_put] at hg
    by_cases e : a = id
    · subst e
      exact H.disj a o a' g g' L L' ho hown hL hL' hblk
    · rw [if_neg e] at hg
      exact H.disj a ob a' g g' L L' hg hob hL hL' hblk
  · by_cases e : a = id
    · subst e; rw [Base.del_same] at hb; cases hb
    · rw [Base.del_other _ e] at hb
      obtain ⟨h1, h2, h3⟩ := H.ghost a ob hb
      exact ⟨fun u hu => by rw [AHeap.get_put, if_neg e] at hu; exact h1 u hu, h2, h3⟩

theorem RelH.goneAll : ∀ {es : List Nat} {B : Base} {h h' : AHeap}, RelH P B φ h w → goneAll es h = some h' → ∃ B' : Base, B'.n = B.n ∧ (∀ id, B'.gh id = if id ∈ es then none else B.gh id) ∧ RelH P B' φ h' w
  | [], B, h, h', H, e => by cases e; exact ⟨B, rfl, fun id => by simp, H⟩
  | id :: l, B, h, h', H, e => by
    simp only [Go.Ab.goneAll] at e
    split at e
    · rename_i o ho
      cases hb : o.own with
      | false => rw [hb] at e; cases e
      | true =>
        rw [hb, cond_true] at e
        obtain ⟨B', h1, h2, h3⟩ := RelH.goneAll (H.fade ho hb) e
        refine ⟨B', h1, fun a => ?_, h3⟩
        rw [h2 a]
        by_cases hl : a ∈ l
        · rw [if_pos hl, if_pos (List.mem_cons_of_mem _ hl)]
        · rw [if_neg hl]
          by_cases e' : a = id
          · subst e'; rw [Base.del_same, if_pos List.mem_cons_self]
          · rw [Base.del_other _ e', if_neg]
            intro hm
            rcases List.mem_cons.1 hm with h | h
            · exact e' h
            · exact hl h
    · cases e

/-! ### Two stores -/
theorem AHeap.put_comm {id jd : Nat} (o u : AObj) (hne : id ≠ jd) : (h.put jd u).put id o = (h.put id o).put jd u := by
  simp only [AHeap.put, AHeap.mk.injEq, true_and]
  exact PT.set_comm _ _ _ hne

def putO (h : AHeap) (id : Nat) : Option AObj → AHeap
  | some o => h.put id o
  | none => h

theorem putO_comm {id jd : Nat} (o u : Option AObj) (hne : id ≠ jd) : putO (putO h jd u) id o = putO (putO h id o) jd u := by
  cases o <;> cases u <;> first | rfl | exact AHeap.put_comm _ _ hne

theorem row_putO {id jd : Nat} (o : Option AObj) (hne : jd ≠ id) : (putO h id o).row jd = h.row jd := by
  cases o with
  | none => rfl
  | some o => simp only [putO, AHeap.row]; rw [AHeap.get_put, if_neg hne]

theorem storeA_at {n id g i o : Nat} {u : AV} (he : storeA h n (.ptr id g i o) u = some h') : ∃ ob : Option AObj, h' = putO h id ob ∧ (∀ hh : AHeap, hh.row id = h.row id → storeA hh n (.ptr id g i o) u = some (putO hh id ob)) ∧ ∀ b, ob = some b → ∃ r r', h.row id = some r ∧ b = .row r' ∧ r'.sz = r.sz := by
  simp only [storeA] at he
  cases hr : h.row id with
  | none =>
    rw [hr] at he
    simp only at he
    cases hb : (Nat.beq n 0 && Nat.beq u.cells.length 0) with
    | false => rw [hb] at he; cases he
    | true =>
      rw [hb, cond_true] at he; cases he
      exact ⟨none, rfl, fun hh e => by simp only [storeA, e, hb, cond_true, putO], fun b e => by cases e⟩
  | some r =>
    rw [hr] at he
    simp only at he
    cases hb : (r.rw && Nat.beq g r.g && Nat.beq u.cells.length n && allLeaf u.cells) with
    | false => rw [hb] at he; cases he
    | true =>
      rw [hb, cond_true] at he
      cases hn : nth r.es i with
      | none => rw [hn] at he; cases he
      | some e =>
        rw [hn] at he
        simp only at he
        cases hl : Nat.ble (o + n) e.length with
        | false => rw [hl] at he; cases he
        | true =>
          rw [hl, cond_true] at he; cases he
          exact ⟨some _, rfl, fun hh e' => by simp only [storeA, e', hb, cond_true, hn, hl, putO], fun b e => by cases e; exact ⟨r, _, rfl, rfl, rfl⟩⟩

theorem apartP_iff {x y : AV} (k : apartP x y = true) : ∃ a b c d a' b' c' d', x = .ptr a b c d ∧ y = .ptr a' b' c' d' ∧ a ≠ a' := by
  unfold apartP at k
  split at k
  · rename_i i a b c j d e f
    refine ⟨i, a, b, c, j, d, e, f, rfl, rfl, fun hij => ?_⟩
    subst hij
    simp [nbeq_true.2] at k
  · cases k

theorem store_swap {n m : Nat} {a u b t : AV} {h1 h2 : AHeap} (hab : apartP a b = true) (e1 : storeA h n a u = some h1) (e2 : storeA h1 m b t = some h2) : ∃ h3, storeA h m b t = some h3 ∧ storeA h3 n a u = some h2 ∧ ∀ id sz, rowSz h3 id sz = rowSz h2 id sz := by
  obtain ⟨a1, a2, a3, a4, b1, b2, b3, b4, rfl, rfl, hne⟩ := apartP_iff hab
  obtain ⟨o1, rfl, f1, g1⟩ := storeA_at e1
  obtain ⟨o2, rfl, f2, g2⟩ := storeA_at e2
  refine ⟨putO h b1 o2, f2 h (row_putO o1 hne.symm).symm, ?_, fun id sz => ?_⟩
  · rw [f1 _ (row_putO o2 hne), putO_comm o1 o2 hne]
  · rw [← putO_comm o1 o2 hne]
    by_cases e : id = a1
    · subst e
      cases o1 with
      | none => rfl
      | some ob =>
        obtain ⟨r, r', k1, rfl, k3⟩ := g1 ob rfl
        have l1 : (putO h b1 o2).row id = some r := by rw [row_putO o2 hne]; exact k1
        have l2 : (putO (putO h b1 o2) id (some (.row r'))).row id = some r' := by
          simp only [putO, AHeap.row]; rw [AHeap.get_put, if_pos rfl]
        simp only [rowSz, l1, l2, k3]
    · simp only [rowSz, row_putO o1 e]

theorem again_iadr {as : List AOper} {g : AHeap} (hs : ∀ id sz, rowSz h id sz = rowSz g id sz) : ∀ {l : List Nat}, allN l (fun i => isIadrA (ao as i)) = true → again ρ h (l.map (ao as)) = again ρ g (l.map (ao as))
  | [], _ => rfl
  | i :: l, k => by
    simp only [allN] at k
    cases hb : isIadrA (ao as i) with
    | false => rw [hb] at k; cases k
    | true =>
      rw [hb, cond_true] at k
      simp only [List.map_cons, again]
      rw [again_iadr hs k]
      have : againOne ρ h (ao as i) = againOne ρ g (ao as i) := by
        unfold isIadrA at hb
        split at hb
        · rename_i sz x y hg ho
          unfold againOne
          rw [hg, ho]
          simp only [wantedA, evalA, ev2]
          have : ∀ p q, iadrA h sz p q = iadrA g sz p q := by
            intro p q
            unfold iadrA
            split
            · simp only [hs]
            · rfl
          cases ev ρ x with
          | none => rfl
          | some p =>
            cases ev ρ y with
            | none => rfl
            | some q =>
              simp only [this]
              cases iadrA g sz p q <;> rfl
        · cases hb
      rw [this]

end
end
end Go.Ab
