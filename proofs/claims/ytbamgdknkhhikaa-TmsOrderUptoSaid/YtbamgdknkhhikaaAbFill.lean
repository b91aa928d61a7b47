/-
  What makes something new may come up ahead of its turn: first without a block, then with one.
-/
import Derived.Test.YtbamgdknkhhikaaAbCongr
namespace Go.Ab
set_option linter.unusedSimpArgs false
set_option linter.unusedVariables false

section
variable {P : Program} {B : Base} {φ : Phi} {h h' : AHeap} {w : World} {v : AV} {N : Nat} {ρ : Regs} {a : Act}

theorem compChk_raw {x : Op} {op : AOp} (h : compChk P x = some op) : compRaw P x = some op := by
  unfold compChk at h
  split at h
  · rename_i y hy
    cases hi : isCall y with
    | true => rw [hi] at h; cases h
    | false => rw [hi] at h; cases h; exact hy
  · cases h

theorem early_ops {o : Oper} (he : earlyO o = true) : o.guard = none ∧ ((∃ t, o.op = .alloc t) ∨ (∃ t x, o.op = .box t x) ∨ (∃ t, o.op = .makeMap t none) ∨ ∃ t l c, o.op = .makeSlice t l c) := by
  unfold earlyO at he
  split at he
  · cases he
  · rename_i hg
    refine ⟨hg, ?_⟩
    split at he
    · rename_i t ho; exact .inl ⟨t, ho⟩
    · rename_i t x ho; exact .inr (.inl ⟨t, x, ho⟩)
    · rename_i t l c ho; exact .inr (.inr (.inr ⟨t, l, c, ho⟩))
    · rename_i t ho; exact .inr (.inr (.inl ⟨t, ho⟩))
    · cases he

/-- How such an operation is compiled. -/
theorem early_comp {o : Oper} {op : AOp} (hc : compOp P o.op = some op) (he : earlyO o = true) :
    (∃ t z, o.op = .alloc t ∧ zeroT P t = some z ∧ op = bif isNoted z.cells then .allot t z.cells else .alloc z.cells) ∨
    (∃ t x n y, o.op = .box t x ∧ sizeT P t = some n ∧ opdOf x = some y ∧ op = .box n y) ∨
    (∃ t, o.op = .makeMap t none ∧ op = .mkmap) ∨
    ∃ t l c e sz bytes z x y, o.op = .makeSlice t l c ∧ P.underlying t = some (.slice e) ∧ sizeT P e = some sz ∧ bytesT P e = some bytes ∧ zeroT P e = some z ∧ opdOf l = some x ∧ opdOf c = some y ∧ op = .mksl sz bytes z.cells x y := by
  obtain ⟨_, ⟨t, ho⟩ | ⟨t, x, ho⟩ | ⟨t, ho⟩ | ⟨t, l, c, ho⟩⟩ := early_ops he
  all_goals
    rw [ho] at hc
    simp only [compOp] at hc
    have hr := compChk_raw hc
    simp only [compRaw] at hr
  · cases hz : zeroT P t with
    | none => rw [hz] at hr; cases hr
    | some z => rw [hz] at hr; cases hr; exact .inl ⟨t, z, ho, hz, rfl⟩
  · cases hs : sizeT P t with
    | none => simp [hs] at hr
    | some n =>
      cases hx : opdOf x with
      | none => simp [hs, hx] at hr
      | some y => simp [hs, hx] at hr; exact .inr (.inl ⟨t, x, n, y, ho, hs, hx, hr.symm⟩)
  · cases hr; exact .inr (.inr (.inl ⟨t, ho, rfl⟩))
  · split at hr
    · rename_i e hu
      cases hs : sizeT P e with
      | none => simp [hs] at hr
      | some sz =>
        cases hb : bytesT P e with
        | none => simp [hs, hb] at hr
        | some bytes =>
          cases hz : zeroT P e with
          | none => simp [hs, hb, hz] at hr
          | some z =>
            cases hl : opdOf l with
            | none => simp [hs, hb, hz, hl] at hr
            | some l' =>
              cases hcc : opdOf c with
              | none => simp [hs, hb, hz, hl, hcc] at hr
              | some c' =>
                simp [hs, hb, hz, hl, hcc] at hr
                exact .inr (.inr (.inr ⟨t, l, c, e, sz, bytes, z, l', c', ho, hu, hs, hb, hz, hl, hcc, hr.symm⟩))
    · cases hr

theorem early_push {o : Oper} {op : AOp} (hc : compOp P o.op = some op) (he : earlyO o = true) (hv : evalA ρ h op = some (v, h')) : isCall op = false ∧ ∃ ob, h' = h.push ob := by
  rcases early_comp hc he with ⟨t, z, _, hz, rfl⟩ | ⟨t, x, n, y, _, _, _, rfl⟩ | ⟨t, _, rfl⟩ | ⟨t, l, c, e, sz, bytes, z, x, y, _, _, _, _, _, _, _, rfl⟩
  · cases hn : isNoted z.cells with
    | true =>
      rw [hn, cond_true] at hv; rw [cond_true]
      simp only [evalA] at hv
      cases hb : (Nat.blt 0 z.cells.length && allLeaf z.cells) with
      | false => rw [hb] at hv; cases hv
      | true => rw [hb, cond_true] at hv; cases hv; exact ⟨rfl, _, rfl⟩
    | false =>
      rw [hn, cond_false] at hv; rw [cond_false]
      simp only [evalA] at hv
      obtain ⟨_, ob, h1, _⟩ := allocA_push hv
      exact ⟨rfl, ob, h1⟩
  · simp only [evalA] at hv
    split at hv
    · rename_i u hu
      unfold boxA at hv
      cases hb : (Nat.beq u.cells.length n && allLeaf u.cells && Nat.blt 0 n) with
      | false => rw [hb] at hv; cases hv
      | true => rw [hb, cond_true] at hv; cases hv; exact ⟨rfl, _, rfl⟩
    · cases hv
  · simp only [evalA] at hv
    cases hv; exact ⟨rfl, _, rfl⟩
  · simp only [evalA] at hv
    split at hv
    · obtain ⟨ob, h1, _⟩ := mkslA_push hv
      exact ⟨rfl, ob, h1⟩
    · cases hv

/-- The block of one that came ahead. -/
theorem early_fill {o : Oper} {op : AOp} {hp : AHeap} {ob : AObj} (hR : RelR φ N ρ a.tmps) (H : RelH P B φ h w) (hc : compOp P o.op = some op) (he : earlyO o = true) (hv : evalA ρ hp op = some (v, hp.push ob)) (hg : B.gh hp.sz = some ob) :
    Sim P (B.del hp.sz) φ h v w ((execOp a.eval o).run P w) := by
  rcases early_comp hc he with ⟨t, z, ho, hz, rfl⟩ | ⟨t, x, n, y, ho, hs, hx, rfl⟩ | ⟨t, ho, rfl⟩ | ⟨t, l, c, e, sz, bytes, z, x, y, ho, hu, hs, hb, hz, hl, hcc, rfl⟩
  · cases hn : isNoted z.cells with
    | true =>
      rw [hn, cond_true] at hv
      simp only [evalA] at hv
      cases hb : (Nat.blt 0 z.cells.length && allLeaf z.cells) with
      | false => rw [hb] at hv; cases hv
      | true =>
        rw [hb, cond_true] at hv
        simp only [Option.some.injEq, Prod.mk.injEq] at hv
        obtain ⟨rfl, e⟩ := hv
        have hob := push_inj e
        subst hob
        simp only [execOp, ho]
        exact Sim.ofV (allot_fill H hz rfl hb hg)
    | false =>
      rw [hn, cond_false] at hv
      simp only [evalA] at hv
      simp only [execOp, ho]
      exact Sim.ofV (allocA_fill H hz rfl hv hg)
  · simp only [evalA] at hv
    split at hv
    · rename_i u hu
      unfold boxA at hv
      cases hb : (Nat.beq u.cells.length n && allLeaf u.cells && Nat.blt 0 n) with
      | false => rw [hb] at hv; cases hv
      | true =>
        rw [hb, cond_true] at hv
        simp only [Option.some.injEq, Prod.mk.injEq] at hv
        obtain ⟨rfl, e⟩ := hv
        have hob := push_inj e
        subst hob
        simp only [execOp, ho]
        exact Sim.ofV (box_fill H (ev_opd hR hx hu) hb hg)
    · cases hv
  · simp only [evalA] at hv
    simp only [Option.some.injEq, Prod.mk.injEq] at hv
    obtain ⟨rfl, e⟩ := hv
    have hob := push_inj e
    subst hob
    have hle := Phi.le_add (φ := φ) (id := hp.sz) (g := 0) ⟨w.heap.size, 0, 0, 0, 0⟩ ((H.ghost _ _ hg).2 0)
    have hp' := H.fill hg rfl (L := ⟨w.heap.size, 0, 0, 0, 0⟩) (ob := .map #[] 0) rfl (fun ds e => by cases e) ⟨_, #[], Phi.add_same _ _ _ _, heap_alloc_new w _, .nil⟩
    simp only [execOp, ho]
    exact Sim.ofV ⟨.map (some w.heap.size), _, _, by simp [Instr.makeMap], .map (Phi.add_same _ _ _ _), hp', hle, Gw.alloc H.base (fun _ _ _ e => by cases e)⟩
  · simp only [evalA] at hv
    split at hv
    · rename_i u u' h1 h2
      simp only [execOp, ho]
      exact Sim.ofV (mksl_fill H hu hs hb hz (ev_opd hR hl h1) (ev_opd hR hcc h2) hv hg)
    · cases hv

end
end Go.Ab
