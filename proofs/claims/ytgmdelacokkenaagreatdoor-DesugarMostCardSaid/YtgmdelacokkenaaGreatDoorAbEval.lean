/-
  'evalA_sound': an operation that is no call does in the model what the abstract machine does.
-/
import Derived.Test.YtgmdelacokkenaaGreatDoorAbOps6
namespace Go.Ab
noncomputable section
set_option linter.unusedSimpArgs false
set_option linter.unusedVariables false

section
variable {P : Program} {B : Base} {φ : Phi} {h h' : AHeap} {w : World} {v : AV} {N : Nat} {ρ : Regs} {a : Act}

theorem ev1_some {x : Opd} {f : AV → Option AV} (he : pureV (ev1 ρ x f) h = some (v, h')) : ∃ u, ev ρ x = some u ∧ f u = some v ∧ h' = h := by
  unfold pureV ev1 at he
  split at he
  · rename_i r hr
    cases he
    split at hr
    · rename_i u hu; exact ⟨u, hu, hr, rfl⟩
    · cases hr
  · cases he

theorem ev2_some {x y : Opd} {f : AV → AV → Option AV} (he : pureV (ev2 ρ x y f) h = some (v, h')) : ∃ u u', ev ρ x = some u ∧ ev ρ y = some u' ∧ f u u' = some v ∧ h' = h := by
  unfold pureV ev2 at he
  split at he
  · rename_i r hr
    cases he
    split at hr
    · rename_i u hu
      split at hr
      · rename_i u' hu'; exact ⟨u, u', hu, hu', hr, rfl⟩
      · cases hr
    · cases hr
  · cases he

theorem pureV_some {r : Option AV} (he : pureV r h = some (v, h')) : r = some v ∧ h' = h := by
  unfold pureV at he
  split at he
  · cases he; exact ⟨rfl, rfl⟩
  · cases he

theorem unit_some {r : Option AHeap} (he : unit r = some (v, h')) : r = some h' ∧ v = .tup [] := by
  unfold unit at he
  split at he
  · cases he; exact ⟨rfl, rfl⟩
  · cases he

theorem Sim.pureV {s : Sem Value} {cv : Value} (H : RelH P B φ h w) (hs : s.run P w = .ok cv w) (hv : RelV φ v cv) : Sim P B φ h v w ((do let x ← s; Pure.pure (Next.value x) : Sem Next).run P w) :=
  Sim.ofV (SimV.pure H hs hv)

theorem run_call_builtin {c : Call} {b : Builtin} (hcal : c.callee = .builtin b) (ρ' : Operand → Value) (ty : TypeId) : (do let d ← resolve ρ' c ty; invoke d.target d.args : Sem Next).run P w = (builtin b c.argTypes ty (c.args.map fun | .const _ => true | _ => false) (c.args.map ρ')).run P w := by
  unfold resolve
  simp only [hcal, Sem.run_bind, Sem.run_pure, Result.andThen_ok, invoke]
  rfl

theorem builtin_sound {c : Call} {b : Builtin} {op : AOp} {ty : TypeId} {consts : Array Bool} (hR : RelR φ N ρ a.tmps) (H : RelH P B φ h w) (hc : compBuiltin P b c.argTypes.toList c.args.toList = some op) (he : evalA ρ h op = some (v, h')) :
    Sim P B φ h' v w ((builtin b c.argTypes ty consts (c.args.map a.eval)).run P w) := by
  obtain ⟨cal, ⟨args⟩, ⟨types⟩⟩ := c
  simp only at hc
  unfold compBuiltin at hc
  split at hc
  · -- len
    rename_i t x
    simp only [Option.bind_eq_bind, Option.pure_def] at hc
    cases hx : opdOf x with
    | none => simp [hx] at hc
    | some y =>
      rw [hx] at hc
      simp only [Option.bind_some] at hc
      split at hc
      · rename_i hu
        cases hc
        simp only [evalA] at he
        obtain ⟨u, h1, h2, rfl⟩ := ev1_some he
        obtain ⟨cv, g1, g2⟩ := len_sound (ty := ty) H hu (.inl ⟨rfl, rfl⟩) (ev_opd hR hx h1) h2
        exact Sim.pureV H (by simpa using g1) g2
      · rename_i e hu
        cases hc
        simp only [evalA] at he
        obtain ⟨u, h1, h2, rfl⟩ := ev1_some he
        obtain ⟨cv, g1, g2⟩ := len_sound (ty := ty) H hu (.inr (.inl ⟨rfl, e, rfl⟩)) (ev_opd hR hx h1) h2
        exact Sim.pureV H (by simpa using g1) g2
      · rename_i e f hu
        cases hc
        simp only [evalA] at he
        obtain ⟨u, h1, h2, rfl⟩ := ev1_some he
        obtain ⟨cv, g1, g2⟩ := len_sound (ty := ty) H hu (.inr (.inr ⟨rfl, e, f, rfl⟩)) (ev_opd hR hx h1) h2
        exact Sim.pureV H (by simpa using g1) g2
      · rename_i n e hu
        cases hc
        simp only [evalA, ev, Ab.pureV] at he
        cases he
        refine Sim.pureV H (cv := .int .i64 n) ?_ (.int _ _)
        simp [Builtin.len_, run_underlying hu, goInt]
      · cases hc
  · -- cap
    rename_i t x
    simp only [Option.bind_eq_bind, Option.pure_def] at hc
    cases hx : opdOf x with
    | none => simp [hx] at hc
    | some y =>
      rw [hx] at hc
      simp only [Option.bind_some] at hc
      split at hc
      · rename_i e hu
        cases hc
        simp only [evalA] at he
        obtain ⟨u, h1, h2, rfl⟩ := ev1_some he
        obtain ⟨cv, g1, g2⟩ := cap_sound (w := w) (ty := ty) hu (ev_opd hR hx h1) h2
        exact Sim.pureV H (by simpa using g1) g2
      · cases hc
  · -- append
    rename_i s t x y
    have := app_sound (ty := ty) hR H (t1 := s) (t2 := t) (x := x) (y := y) (op := op) (by unfold compBuiltin; exact hc) he
    exact Sim.ofV (by simpa using this)
  · -- copy
    rename_i s t x y
    simp only [Option.bind_eq_bind, Option.pure_def] at hc
    cases hx : opdOf x with
    | none => simp [hx] at hc
    | some p =>
      cases hy : opdOf y with
      | none => simp [hx, hy] at hc
      | some q =>
        rw [hx, hy] at hc
        simp only [Option.bind_some] at hc
        split at hc
        · rename_i e hu
          cases hs : sizeT P e with
          | none => simp [hs] at hc
          | some sz =>
            simp [hs] at hc; subst hc
            simp only [evalA] at he
            cases hp : ev ρ p with
            | none => simp [hp] at he
            | some dv =>
              cases hq : ev ρ q with
              | none => simp [hp, hq] at he
              | some sv =>
                rw [hp, hq] at he
                have := copy_sound (t1 := s) (t2 := t) (ty := ty) H hu hs (ev_opd hR hx hp) (ev_opd hR hy hq) he
                exact Sim.ofV (by simpa using this)
        · cases hc
  · -- delete
    rename_i s t x y
    simp only [Option.bind_eq_bind, Option.pure_def] at hc
    cases hx : opdOf x with
    | none => simp [hx] at hc
    | some p =>
      cases hy : opdOf y with
      | none => simp [hx, hy] at hc
      | some q =>
        rw [hx, hy] at hc
        simp only [Option.bind_some] at hc
        split at hc
        · rename_i kt e hu
          cases hk : kkOf P kt with
          | none => simp [hk] at hc
          | some kk =>
            simp [hk] at hc; subst hc
            simp only [evalA] at he
            cases hp : ev ρ p with
            | none => simp [hp] at he
            | some dv =>
              cases hq : ev ρ q with
              | none => simp [hp, hq] at he
              | some sv =>
                rw [hp, hq] at he
                obtain ⟨h1, rfl⟩ := unit_some he
                obtain ⟨w', d1, d2, d3⟩ := del_sound (t2 := t) (ty := ty) H hu hk (ev_opd hR hx hp) (ev_opd hR hy hq) h1
                exact Sim.ofV ⟨.tuple #[], w', φ, by simpa using d1, .tup .nil, d2, φ.le_refl, d3⟩
        · cases hc
  · -- clear
    rename_i t x
    simp only [Option.bind_eq_bind, Option.pure_def] at hc
    cases hx : opdOf x with
    | none => simp [hx] at hc
    | some y =>
      rw [hx] at hc
      simp only [Option.bind_some] at hc
      split at hc
      · rename_i e hu
        cases hs : sizeT P e with
        | none => simp [hs] at hc
        | some sz =>
          cases hz : zeroT P e with
          | none => simp [hs, hz] at hc
          | some z =>
            simp [hs, hz] at hc; subst hc
            simp only [evalA] at he
            cases hp : ev ρ y with
            | none => simp [hp] at he
            | some u =>
              rw [hp] at he
              obtain ⟨h1, rfl⟩ := unit_some he
              obtain ⟨w', d1, d2, d3⟩ := clr_sound (ty := ty) H hu hs hz (ev_opd hR hx hp) h1
              exact Sim.ofV ⟨.tuple #[], w', φ, by simpa using d1, .tup .nil, d2, φ.le_refl, d3⟩
      · cases hc
  · -- unsafe.SliceData
    rename_i t x
    simp only [Option.bind_eq_bind, Option.pure_def] at hc
    cases hx : opdOf x with
    | none => simp [hx] at hc
    | some y =>
      simp [hx] at hc; subst hc
      simp only [evalA] at he
      obtain ⟨u, h1, h2, rfl⟩ := ev1_some he
      obtain ⟨cv, g1, g2⟩ := sdat_sound (w := w) (P := P) (ts := #[t]) (ty := ty) (ev_opd hR hx h1) h2
      exact Sim.pureV H (by simpa using g1) g2
  · -- unsafe.String
    rename_i t u x y
    split at hc
    · rename_i p q e hx hy hu
      cases hz : (isByteT P e && oneT P e) with
      | false => rw [hz] at hc; cases hc
      | true =>
        rw [hz, cond_true] at hc; cases hc
        simp only [Bool.and_eq_true] at hz
        have hs : sizeT P e = some 1 := by
          have h2 := hz.2
          unfold oneT at h2
          split at h2
          · assumption
          · cases h2
        simp only [evalA] at he
        cases hp : ev ρ p with
        | none => simp [hp] at he
        | some a1 =>
          cases hq : ev ρ q with
          | none => simp [hp, hq] at he
          | some a2 =>
            rw [hp, hq] at he
            have := ustr_sound (it := u) (ty := ty) H hu hs (ev_opd hR hx hp) (ev_opd hR hy hq) he
            exact Sim.ofV (by simpa using this)
    · cases hc
  · -- max
    rename_i xs
    simp only [Option.bind_eq_bind, Option.pure_def] at hc
    cases hx : opdsOf args with
    | none => simp [hx] at hc
    | some ys =>
      simp [hx] at hc; subst hc
      simp only [evalA] at he
      split at he
      · rename_i u l hvs
        obtain ⟨h1, rfl⟩ := pureV_some he
        have hrel := evs_opds hR hx hvs
        cases hargs : args.map a.eval with
        | nil => rw [hargs] at hrel; cases hrel
        | cons c0 cs =>
          rw [hargs] at hrel
          cases hrel with
          | cons r1 r2 =>
            obtain ⟨cv, g1, g2⟩ := mm_sound (w := w) (P := P) r1 r2 h1
            refine Sim.pureV H (cv := cv) ?_ g2
            simpa [Builtin.max_, hargs] using g1
      · cases he
  · -- min
    rename_i xs
    simp only [Option.bind_eq_bind, Option.pure_def] at hc
    cases hx : opdsOf args with
    | none => simp [hx] at hc
    | some ys =>
      simp [hx] at hc; subst hc
      simp only [evalA] at he
      split at he
      · rename_i u l hvs
        obtain ⟨h1, rfl⟩ := pureV_some he
        have hrel := evs_opds hR hx hvs
        cases hargs : args.map a.eval with
        | nil => rw [hargs] at hrel; cases hrel
        | cons c0 cs =>
          rw [hargs] at hrel
          cases hrel with
          | cons r1 r2 =>
            obtain ⟨cv, g1, g2⟩ := mm_sound (w := w) (P := P) r1 r2 h1
            refine Sim.pureV H (cv := cv) ?_ g2
            simpa [Builtin.min_, hargs] using g1
      · cases he
  · cases hc


theorem mkif_sound {t : TypeId} {d : TypeDesc} {u : AV} {cx : Value} (hu : P.underlying t = some d) (hd : ∀ ms, d ≠ .interface ms) (hx : RelV φ u cx) (he : mkifA t u = some v) : ∃ cv, (Instr.makeInterface t cx).run P w = .ok cv w ∧ RelV φ v cv := by
  have hv : v = .ifc t u := by
    unfold mkifA at he
    split at he <;> first | (cases he; done) | (cases he; rfl)
  subst hv
  refine ⟨.iface t cx, ?_, .ifc hx⟩
  unfold Instr.makeInterface
  simp only [Sem.run_bind, run_underlying hu, Result.andThen_ok]
  cases d <;> first | rfl | exact absurd rfl (hd _)

theorem tas_sound {t xt : TypeId} {d : TypeDesc} {ok : Bool} {z u : AV} {cx : Value} (hu : P.underlying t = some d) (hd : ∀ ms, d ≠ .interface ms) (hz : zeroT P t = some z) (hx : RelV φ u cx) (he : tasA t ok z u = some v) : ∃ cv, (Instr.typeAssert cx xt t ok).run P w = .ok cv w ∧ RelV φ v cv := by
  obtain ⟨zv, it, z1, z2, z3, z4⟩ := run_zeroT hz w
  have hzr : RelV φ z zv := relV_avOf z2
  unfold tasA at he
  split at he
  · rename_i t' a
    cases hx with
    | ifc hv =>
      rename_i cv
      cases hb : Nat.beq t' t with
      | true =>
        rw [hb, cond_true] at he
        have := Nat.eq_of_beq_eq_true hb; subst this
        cases he
        refine ⟨if ok then .tuple #[cv, .bool true] else cv, ?_, ?_⟩
        · unfold Instr.typeAssert
          simp only [Sem.run_bind, run_underlying hu, Result.andThen_ok]
          cases d <;> first | exact absurd rfl (hd _) | (simp; done)
        · cases ok with
          | true => exact .tup (.cons hv (.cons (.bool _) .nil))
          | false => exact hv
      | false =>
        rw [hb, cond_false] at he
        cases ok with
        | false => cases he
        | true =>
          rw [cond_true] at he; cases he
          have hne : ¬ t' = t := nbeq_false.1 hb
          refine ⟨.tuple #[zv, .bool false], ?_, .tup (.cons hzr (.cons (.bool _) .nil))⟩
          unfold Instr.typeAssert
          simp only [Sem.run_bind, run_underlying hu, Result.andThen_ok]
          cases d <;> first | exact absurd rfl (hd _) | (simp [hne, z1]; done)
  · cases hx
    cases ok with
    | false => cases he
    | true =>
      rw [cond_true] at he; cases he
      refine ⟨.tuple #[zv, .bool false], ?_, .tup (.cons hzr (.cons (.bool _) .nil))⟩
      unfold Instr.typeAssert
      simp only [Sem.run_bind, run_underlying hu, Result.andThen_ok]
      cases d <;> first | exact absurd rfl (hd _) | (simp [z1]; done)
  · cases he

theorem evalA_sound {o : Oper} {op : AOp} (hR : RelR φ N ρ a.tmps) (H : RelH P B φ h w) (hc : compRaw P o.op = some op) (he : evalA ρ h op = some (v, h')) : Sim P B φ h' v w ((execOp a.eval o).run P w) := by
  obtain ⟨dst, oo, type, pos, after, guard⟩ := o
  simp only at hc
  cases oo <;> simp only [compRaw, Option.bind_eq_bind, Option.pure_def] at hc <;> try (cases hc; done)
  case move x =>
    cases hx : opdOf x with
    | none => simp [hx] at hc
    | some y =>
      simp [hx] at hc; subst hc
      simp only [evalA] at he
      obtain ⟨h1, rfl⟩ := pureV_some he
      exact ⟨a.eval x, w, φ, .inl (by simp [execOp]), ev_opd hR hx h1, H, φ.le_refl, Gw.refl B w⟩
  case assign x =>
    cases hx : opdOf x with
    | none => simp [hx] at hc
    | some y =>
      simp [hx] at hc; subst hc
      simp only [evalA] at he
      obtain ⟨h1, rfl⟩ := pureV_some he
      exact ⟨a.eval x, w, φ, .inl (by simp [execOp]), ev_opd hR hx h1, H, φ.le_refl, Gw.refl B w⟩
  case pick c x y =>
    cases h1 : opdOf c with
    | none => simp [h1] at hc
    | some c' =>
      cases h2 : opdOf x with
      | none => simp [h1, h2] at hc
      | some x' =>
        cases h3 : opdOf y with
        | none => simp [h1, h2, h3] at hc
        | some y' =>
          simp [h1, h2, h3] at hc; subst hc
          simp only [evalA] at he
          split at he
          · rename_i hcv
            obtain ⟨h4, rfl⟩ := pureV_some he
            have hb := ev_opd hR h1 hcv
            generalize hg : a.eval c = cc at hb
            cases hb
            exact ⟨a.eval x, w, φ, .inl (by simp [execOp, hg, asBool]), ev_opd hR h2 h4, H, φ.le_refl, Gw.refl B w⟩
          · rename_i hcv
            obtain ⟨h4, rfl⟩ := pureV_some he
            have hb := ev_opd hR h1 hcv
            generalize hg : a.eval c = cc at hb
            cases hb
            exact ⟨a.eval y, w, φ, .inl (by simp [execOp, hg, asBool]), ev_opd hR h3 h4, H, φ.le_refl, Gw.refl B w⟩
          · cases he
  case alloc t =>
    cases hz : zeroT P t with
    | none => simp [hz] at hc
    | some z =>
      simp only [hz, Option.some.injEq] at hc
      cases hn : isNoted z.cells with
      | false => rw [hn, cond_false] at hc; subst hc; exact Sim.ofV (alloc_sound H hz rfl he)
      | true => rw [hn, cond_true] at hc; subst hc; exact Sim.ofV (allot_sound H hz rfl he)
  case box t x =>
    cases hs : sizeT P t with
    | none => simp [hs] at hc
    | some n =>
      cases hx : opdOf x with
      | none => simp [hs, hx] at hc
      | some y =>
        simp [hs, hx] at hc; subst hc
        simp only [evalA] at he
        split at he
        · rename_i u hu
          exact Sim.ofV (box_soundN H (ev_opd hR hx hu) he)
        · cases he
  case build t parts =>
    exact Sim.ofV (build_sound hR H (by simpa only [compRaw, Option.bind_eq_bind, Option.pure_def] using hc) he)
  case buildSlice t n parts =>
    exact Sim.ofV (bslice_sound hR H (by simpa only [compRaw, Option.bind_eq_bind, Option.pure_def] using hc) he)
  case load t x =>
    cases hg : isAggT P t with
    | none => simp [hg] at hc
    | some ag =>
      cases hs : sizeT P t with
      | none => simp [hg, hs] at hc
      | some n =>
        cases hx : opdOf x with
        | none => simp [hg, hs, hx] at hc
        | some y =>
          simp [hg, hs, hx] at hc; subst hc
          simp only [evalA] at he
          obtain ⟨u, h1, h2, rfl⟩ := ev1_some he
          obtain ⟨cv, g1, _, g2⟩ := load_sound H (ev_opd hR hx h1) h2 hg hs
          exact Sim.pureV H g1 g2
  case store t x y =>
    cases hs : sizeT P t with
    | none => simp [hs] at hc
    | some n =>
      cases hx : opdOf x with
      | none => simp [hs, hx] at hc
      | some p =>
        cases hy : opdOf y with
        | none => simp [hs, hx, hy] at hc
        | some q =>
          simp [hs, hx, hy] at hc; subst hc
          simp only [evalA] at he
          split at he
          · rename_i u u' hu hu'
            obtain ⟨h1, rfl⟩ := unit_some he
            exact Sim.ofU (store_sound H (ev_opd hR hx hu) (ev_opd hR hy hu') h1 hs)
          · cases he
  case nilCheck x =>
    cases hx : opdOf x with
    | none => simp [hx] at hc
    | some y =>
      simp [hx] at hc; subst hc
      simp only [evalA] at he
      obtain ⟨u, h1, h2, rfl⟩ := ev1_some he
      have hr := ev_opd hR hx h1
      obtain ⟨rfl, k1, k2, k3, k4⟩ := nilck_sound hr h2
      refine ⟨a.eval x, w, φ, .inl ?_, hr, H, φ.le_refl, Gw.refl B w⟩
      simp only [execOp]
      generalize a.eval x = cx at *
      cases hr <;> first | rfl | exact absurd rfl k1 | exact absurd rfl k2
  case binOp bop t x y yt =>
    cases hx : opdOf x with
    | none => simp [hx] at hc
    | some p =>
      cases hy : opdOf y with
      | none => simp [hx, hy] at hc
      | some q =>
        rw [hx, hy] at hc
        simp only [Option.bind_some] at hc
        have bin : op = .bin bop p q → Sim P B φ h' v w ((execOp a.eval ⟨dst, .binOp bop t x y yt, type, pos, after, guard⟩).run P w) := by
          rintro rfl
          simp only [evalA] at he
          obtain ⟨u, u', h1, h2, h3, rfl⟩ := ev2_some he
          have r1 := ev_opd hR hx h1
          have r2 := ev_opd hR hy h2
          obtain ⟨cv, g1, g2, g3, g4⟩ := binA_sound (w := w) (P := P) r1 r2 h3 t
          refine Sim.pureV (s := do eqGuard bop t x y (a.eval x) (a.eval y); binOp bop t (a.eval x) (a.eval y)) H (cv := cv) ?_ g2
          have hgd : (eqGuard bop t x y (a.eval x) (a.eval y)).run P w = .ok () w := by
            unfold eqGuard
            cases bop <;> simp
            all_goals
              generalize a.eval x = cx at *
              generalize a.eval y = cy at *
              cases cx <;> first | rfl | exact absurd rfl g4 | (cases cy <;> first | rfl | (rcases g3 _ _ with hh | hh <;> exact absurd rfl hh))
          simp [Sem.run_bind, hgd, g1]
        split at hc
        · cases hc; exact bin rfl
        · cases hc; exact bin rfl
        · split at hc
          · cases hk : eqKX P t x y with
            | none => simp [hk] at hc
            | some k =>
              simp [hk] at hc; subst hc
              obtain ⟨hk, hco⟩ := eqKX_spec hk
              simp only [evalA] at he
              split at he
              · rename_i u u' h1 h2
                split at he
                · rename_i r hr
                  cases he
                  exact Sim.pureV (s := do eqGuard .eql t x y (a.eval x) (a.eval y); binOp .eql t (a.eval x) (a.eval y)) H (eq_sound (.inl ⟨rfl, rfl⟩) H hk (ev_opd hR hx h1) (ev_opd hR hy h2) hr x y hco) (.bool _)
                · cases he
              · cases he
          · cases hk : eqKX P t x y with
            | none => simp [hk] at hc
            | some k =>
              simp [hk] at hc; subst hc
              obtain ⟨hk, hco⟩ := eqKX_spec hk
              simp only [evalA] at he
              split at he
              · rename_i u u' h1 h2
                split at he
                · rename_i r hr
                  cases he
                  exact Sim.pureV (s := do eqGuard .neq t x y (a.eval x) (a.eval y); binOp .neq t (a.eval x) (a.eval y)) H (eq_sound (.inr ⟨rfl, rfl⟩) H hk (ev_opd hR hx h1) (ev_opd hR hy h2) hr x y hco) (.bool _)
                · cases he
              · cases he
          · cases hc
  case unOp uop t x =>
    cases hx : opdOf x with
    | none => simp [hx] at hc
    | some y =>
      rw [hx] at hc
      simp only [Option.bind_some] at hc
      split at hc
      · cases hc
        simp only [evalA] at he
        obtain ⟨u, h1, h2, rfl⟩ := ev1_some he
        obtain ⟨cv, g1, g2⟩ := not_sound (w := w) (P := P) (ev_opd hR hx h1) h2
        exact Sim.pureV H g1 g2
      · cases hc
        simp only [evalA] at he
        obtain ⟨u, h1, h2, rfl⟩ := ev1_some he
        obtain ⟨cv, g1, g2⟩ := neg_sound (w := w) (P := P) (ev_opd hR hx h1) h2
        exact Sim.pureV H g1 g2
      · cases hc
  case convert s d x =>
    cases hx : opdOf x with
    | none => simp [hx] at hc
    | some y =>
      rw [hx] at hc
      simp only [Option.bind_some] at hc
      split at hc
      · rename_i ks k hs hd
        cases hc
        simp only [evalA] at he
        obtain ⟨u, h1, h2, rfl⟩ := ev1_some he
        obtain ⟨cv, g1, g2⟩ := conv_sound (w := w) hs hd (ev_opd hR hx h1) h2
        exact Sim.pureV H g1 g2
      · rename_i hs hd
        cases hc
        simp only [evalA] at he
        obtain ⟨u, h1, h2, rfl⟩ := ev1_some he
        unfold cvsA at h2
        split at h2
        · cases h2
          have hr := ev_opd hR hx h1
          generalize hg : a.eval x = cx at hr
          cases hr with
          | str hs' =>
            refine Sim.pureV (s := convert s d (a.eval x)) H (cv := a.eval x) ?_ (by rw [hg]; exact .str hs')
            rw [hg]
            simp [convert, Sem.run_bind, run_underlying hs, run_underlying hd]
        · cases h2
      · rename_i e hs hd
        split at hc
        · rename_i hu
          cases hc
          simp only [evalA] at he
          obtain ⟨u, h1, h2, rfl⟩ := ev1_some he
          obtain ⟨cv, g1, g2⟩ := b2s_sound H hs hd hu (ev_opd hR hx h1) h2
          exact Sim.pureV H g1 g2
        · cases hc
      · rename_i t hs hd
        cases hz : posT P t with
        | false => rw [hz, cond_false] at hc; cases hc
        | true =>
          rw [hz, cond_true] at hc; cases hc
          obtain ⟨m, hm⟩ : ∃ m, sizeT P t = some (m + 1) := by
            unfold posT at hz
            split at hz
            · rename_i m hm; exact ⟨m, hm⟩
            · cases hz
          simp only [evalA] at he
          obtain ⟨u, h1, h2, rfl⟩ := ev1_some he
          obtain ⟨cv, g1, g2⟩ := uto_sound H hs hd hm (ev_opd hR hx h1) h2
          exact Sim.pureV H g1 g2
      · rename_i t hs hd
        split at hc
        · rename_i m hm
          cases hl : selfLaid P t with
          | false => rw [hl, cond_false] at hc; cases hc
          | true =>
            rw [hl, cond_true] at hc; cases hc
            simp only [evalA] at he
            obtain ⟨u, h1, h2, rfl⟩ := ev1_some he
            obtain ⟨cv, g1, g2⟩ := ufr_sound H hs hd hm hl (fun x hx => (List.mem_filter.1 hx).2) (ev_opd hR hx h1) h2
            exact Sim.pureV H g1 g2
        · cases hc
      · cases hc
  case makeFunc fn first cap =>
    split at hc
    · rename_i f
      cases hx : opdsOf first.toList with
      | none => simp [hx] at hc
      | some xs =>
        cases hy : opdsOf cap.toList with
        | none => simp [hx, hy] at hc
        | some ys =>
          simp [hx, hy] at hc; subst hc
          simp only [evalA] at he
          split at he
          · rename_i vs ws h1 h2
            cases he
            have r1 := evs_opds hR hx h1
            have r2 := evs_opds hR hy h2
            refine Sim.pureV (s := Instr.makeFunc (.func f) (first.map a.eval) (cap.map a.eval)) H (cv := .func (.func f) ⟨first.toList.map a.eval⟩ ⟨cap.toList.map a.eval⟩) ?_ (.func r1 r2)
            have e1 : first.map a.eval = ⟨first.toList.map a.eval⟩ := by apply Array.ext'; simp
            have e2 : cap.map a.eval = ⟨cap.toList.map a.eval⟩ := by apply Array.ext'; simp
            simp only [Instr.makeFunc, Sem.run_pure, e1, e2]
          · cases he
    · cases hc
  case makeMap t r =>
    split at hc
    · cases hc
      simp only [evalA] at he
      cases he
      have hle := Phi.le_add (φ := φ) (id := h.sz) (g := 0) ⟨w.heap.size, 0, 0, 0, 0⟩ (H.fresh 0)
      have hp := H.push (o := .map [] 0) rfl (L := ⟨w.heap.size, 0, 0, 0, 0⟩) (ob := .map #[] 0) rfl (fun ds e => by cases e) ⟨_, #[], Phi.add_same _ _ _ _, heap_alloc_new w _, .nil⟩
      exact Sim.ofV ⟨.map (some w.heap.size), _, _, by simp [Instr.makeMap], .map (Phi.add_same _ _ _ _), hp, hle, Gw.alloc H.base (fun _ _ _ e => by cases e)⟩
    · cases hc
  case makeSlice t l c =>
    split at hc
    · rename_i e hu
      cases hs : sizeT P e with
      | none => simp [hs] at hc
      | some sz =>
        cases hb : bytesT P e with
        | none => simp [hs, hb] at hc
        | some bytes =>
          cases hz : zeroT P e with
          | none => simp [hs, hb, hz] at hc
          | some z =>
            cases hl : opdOf l with
            | none => simp [hs, hb, hz, hl] at hc
            | some l' =>
              cases hcc : opdOf c with
              | none => simp [hs, hb, hz, hl, hcc] at hc
              | some c' =>
                simp [hs, hb, hz, hl, hcc] at hc; subst hc
                simp only [evalA] at he
                split at he
                · rename_i u u' h1 h2
                  exact Sim.ofV (mksl_sound H hu hs hb hz (ev_opd hR hl h1) (ev_opd hR hcc h2) he)
                · cases he
    · cases hc
  case slice t x lo hi mx =>
    split at hc
    · rename_i mx _ _ e hu
      cases hs : sizeT P e with
      | none => simp [hs] at hc
      | some sz =>
        cases hx : opdOf x with
        | none => simp [hs, hx] at hc
        | some x' =>
          cases hl : optOf lo with
          | none => simp [hs, hx, hl] at hc
          | some l' =>
            cases hh : optOf hi with
            | none => simp [hs, hx, hl, hh] at hc
            | some h2 =>
              cases hm : optOf mx with
              | none => simp [hs, hx, hl, hh, hm] at hc
              | some m' =>
                simp [hs, hx, hl, hh, hm] at hc; subst hc
                simp only [evalA] at he
                obtain ⟨u, g1, g2, rfl⟩ := ev1_some he
                obtain ⟨cv, k1, k2⟩ := slice_sound hR H hu hs (ev_opd hR hx g1) hl hh hm g2
                exact Sim.pureV H k1 k2
    · rename_i hu
      cases hx : opdOf x with
      | none => simp [hx] at hc
      | some x' =>
        cases hl : optOf lo with
        | none => simp [hx, hl] at hc
        | some l' =>
          cases hh : optOf hi with
          | none => simp [hx, hl, hh] at hc
          | some h2 =>
            simp [hx, hl, hh] at hc; subst hc
            simp only [evalA] at he
            obtain ⟨u, g1, g2, rfl⟩ := ev1_some he
            obtain ⟨cv, k1, k2⟩ := sliceS_sound (w := w) hR hu (ev_opd hR hx g1) hl hh g2
            exact Sim.pureV (s := Instr.sliceAt t (a.eval x) (lo.map a.eval) (hi.map a.eval) none) H k1 k2
    · cases hc
  case fieldAddr s x f =>
    split at hc
    · rename_i fs hu
      split at hc
      · rename_i fl hf
        split at hc
        · rename_i m hm
          cases hx : opdOf x with
          | none => simp [hx] at hc
          | some x' =>
            simp [hx] at hc; subst hc
            simp only [evalA] at he
            obtain ⟨u, g1, g2, rfl⟩ := ev1_some he
            obtain ⟨cv, k1, k2⟩ := fadr_sound (w := w) hu hf rfl hm (ev_opd hR hx g1) g2
            exact Sim.pureV H k1 k2
        · cases hc
      · cases hc
    · cases hc
  case field s x f =>
    split at hc
    · rename_i fs hu
      split at hc
      · rename_i fl hf
        cases hg : isAggT P fl.type with
        | none => simp [hg] at hc
        | some ag =>
          cases hm : sizeT P fl.type with
          | none => simp [hg, hm] at hc
          | some m =>
            cases hx : opdOf x with
            | none => simp [hg, hm, hx] at hc
            | some x' =>
              simp [hg, hm, hx] at hc; subst hc
              simp only [evalA] at he
              obtain ⟨u, g1, g2, rfl⟩ := ev1_some he
              obtain ⟨cv, k1, k2⟩ := fld_sound (w := w) hu hf rfl hg hm (ev_opd hR hx g1) g2
              exact Sim.pureV H k1 k2
      · cases hc
    · cases hc
  case indexAddr t x i =>
    split at hc
    · rename_i e hu
      cases hs : sizeT P e with
      | none => simp [hs] at hc
      | some sz =>
        cases hx : opdOf x with
        | none => simp [hs, hx] at hc
        | some x' =>
          cases hi : opdOf i with
          | none => simp [hs, hx, hi] at hc
          | some i' =>
            simp [hs, hx, hi] at hc; subst hc
            simp only [evalA] at he
            obtain ⟨u, u', g1, g2, g3, rfl⟩ := ev2_some he
            obtain ⟨cv, k1, k2⟩ := iadr_sound hu hs H (ev_opd hR hx g1) (ev_opd hR hi g2) g3
            exact Sim.pureV H k1 k2
    · rename_i n e hu
      split at hc
      · rename_i m hs
        cases hx : opdOf x with
        | none => simp [hx] at hc
        | some x' =>
          cases hi : opdOf i with
          | none => simp [hx, hi] at hc
          | some i' =>
            simp [hx, hi] at hc; subst hc
            simp only [evalA] at he
            obtain ⟨u, u', g1, g2, g3, rfl⟩ := ev2_some he
            obtain ⟨cv, k1, k2⟩ := iadra_sound (w := w) hu hs (ev_opd hR hx g1) (ev_opd hR hi g2) g3
            exact Sim.pureV H k1 k2
      · cases hc
    · cases hc
  case index t x i =>
    split at hc
    · rename_i hu
      cases hx : opdOf x with
      | none => simp [hx] at hc
      | some x' =>
        cases hi : opdOf i with
        | none => simp [hx, hi] at hc
        | some i' =>
          simp [hx, hi] at hc; subst hc
          simp only [evalA] at he
          obtain ⟨u, u', g1, g2, g3, rfl⟩ := ev2_some he
          obtain ⟨cv, k1, k2⟩ := idxs_sound (w := w) hu (ev_opd hR hx g1) (ev_opd hR hi g2) g3
          exact Sim.pureV H k1 k2
    · rename_i n e hu
      cases hg : isAggT P e with
      | none => simp [hg] at hc
      | some ag =>
        cases hs : sizeT P e with
        | none => simp [hg, hs] at hc
        | some m =>
          cases hx : opdOf x with
          | none => simp [hg, hs, hx] at hc
          | some x' =>
            cases hi : opdOf i with
            | none => simp [hg, hs, hx, hi] at hc
            | some i' =>
              simp [hg, hs, hx, hi] at hc; subst hc
              simp only [evalA] at he
              obtain ⟨u, u', g1, g2, g3, rfl⟩ := ev2_some he
              obtain ⟨cv, k1, k2⟩ := idxa_sound (w := w) hu hg hs (ev_opd hR hx g1) (ev_opd hR hi g2) g3
              exact Sim.pureV H k1 k2
    · cases hc
  case lookup t m k ok =>
    split at hc
    · rename_i kt e hu
      cases hk : kkOf P kt with
      | none => simp [hk] at hc
      | some kk =>
        cases hz : zeroT P e with
        | none => simp [hk, hz] at hc
        | some z =>
          cases hx : opdOf m with
          | none => simp [hk, hz, hx] at hc
          | some x' =>
            cases hi : opdOf k with
            | none => simp [hk, hz, hx, hi] at hc
            | some i' =>
              simp [hk, hz, hx, hi] at hc; subst hc
              simp only [evalA] at he
              obtain ⟨u, u', g1, g2, g3, rfl⟩ := ev2_some he
              obtain ⟨cv, k1, k2⟩ := look_sound H hu hk hz (ev_opd hR hx g1) (ev_opd hR hi g2) g3
              exact Sim.pureV H k1 k2
    · cases hc
  case mapUpdate t m k u =>
    split at hc
    · rename_i kt e hu
      cases hk : kkOf P kt with
      | none => simp [hk] at hc
      | some kk =>
        cases hx : opdOf m with
        | none => simp [hk, hx] at hc
        | some x' =>
          cases hi : opdOf k with
          | none => simp [hk, hx, hi] at hc
          | some i' =>
            cases hy : opdOf u with
            | none => simp [hk, hx, hi, hy] at hc
            | some y' =>
              simp [hk, hx, hi, hy] at hc; subst hc
              simp only [evalA] at he
              split at he
              · rename_i a1 a2 a3 g1 g2 g3
                obtain ⟨h1, rfl⟩ := unit_some he
                exact Sim.ofU (mupd_sound H hu hk (ev_opd hR hx g1) (ev_opd hR hi g2) (ev_opd hR hy g3) h1)
              · cases he
    · cases hc
  case insert t m k u =>
    split at hc
    · rename_i kt e hu
      cases hk : kkOf P kt with
      | none => simp [hk] at hc
      | some kk =>
        cases hx : opdOf m with
        | none => simp [hk, hx] at hc
        | some x' =>
          cases hi : opdOf k with
          | none => simp [hk, hx, hi] at hc
          | some i' =>
            cases hy : opdOf u with
            | none => simp [hk, hx, hi, hy] at hc
            | some y' =>
              simp [hk, hx, hi, hy] at hc; subst hc
              simp only [evalA] at he
              split at he
              · rename_i a1 a2 a3 g1 g2 g3
                obtain ⟨h1, rfl⟩ := unit_some he
                exact Sim.ofU (mupd_sound H hu hk (ev_opd hR hx g1) (ev_opd hR hi g2) (ev_opd hR hy g3) h1)
              · cases he
    · cases hc
  case range t x =>
    split at hc
    · rename_i kt e hu
      cases hx : opdOf x with
      | none => simp [hx] at hc
      | some x' =>
        simp [hx] at hc; subst hc
        simp only [evalA] at he
        split at he
        · rename_i u hu'
          exact Sim.ofV (rng_sound H hu (ev_opd hR hx hu') he)
        · cases he
    · cases hc
  case next x str =>
    split at hc
    · cases hx : opdOf x with
      | none => simp [hx] at hc
      | some x' =>
        simp [hx] at hc; subst hc
        simp [evalA] at he
    · cases hc
  case entry x =>
    cases hx : opdOf x with
    | none => simp [hx] at hc
    | some x' =>
      simp [hx] at hc; subst hc
      simp only [evalA] at he
      obtain ⟨u, g1, g2, rfl⟩ := ev1_some he
      obtain ⟨cv, k1, k2⟩ := ent_sound H (ev_opd hR hx g1) g2
      exact Sim.pureV H k1 k2
  case extract x i =>
    cases hx : opdOf x with
    | none => simp [hx] at hc
    | some x' =>
      simp [hx] at hc; subst hc
      simp only [evalA] at he
      obtain ⟨u, g1, g2, rfl⟩ := ev1_some he
      obtain ⟨cv, k1, k2⟩ := ext_sound (w := w) (P := P) (ev_opd hR hx g1) g2
      exact Sim.pureV H k1 k2
  case makeInterface xt x =>
    cases hu : P.underlying xt with
    | none => simp [hu] at hc
    | some d =>
      cases hx : opdOf x with
      | none => cases d <;> simp [hu, hx] at hc
      | some x' =>
        have hd : ∀ ms, d ≠ .interface ms := fun ms e => by subst e; simp [hu] at hc
        have hop : op = .mkif xt x' := by cases d <;> first | exact absurd rfl (hd _) | (simp [hu, hx] at hc; exact hc.symm)
        subst hop
        simp only [evalA] at he
        obtain ⟨u, g1, g2, rfl⟩ := ev1_some he
        obtain ⟨cv, k1, k2⟩ := mkif_sound (w := w) hu hd (ev_opd hR hx g1) g2
        exact Sim.pureV H k1 k2
  case typeAssert x xt t ok =>
    cases hu : P.underlying t with
    | none => simp [hu] at hc
    | some d =>
      cases hx : opdOf x with
      | none => cases d <;> simp [hu, hx] at hc
      | some x' =>
        cases hz : zeroT P t with
        | none => cases d <;> simp [hu, hx, hz] at hc
        | some z =>
          have hd : ∀ ms, d ≠ .interface ms := fun ms e => by subst e; simp [hu] at hc
          have hop : op = .tas t ok z x' := by cases d <;> first | exact absurd rfl (hd _) | (simp [hu, hx, hz] at hc; exact hc.symm)
          subst hop
          simp only [evalA] at he
          obtain ⟨u, g1, g2, rfl⟩ := ev1_some he
          obtain ⟨cv, k1, k2⟩ := tas_sound (w := w) (xt := xt) hu hd hz (ev_opd hR hx g1) g2
          exact Sim.pureV H k1 k2
  case call c =>
    split at hc
    · rename_i b hb
      have := builtin_sound (ty := type) (consts := c.args.map fun | .const _ => true | _ => false) hR H hc he
      have e := run_call_builtin (P := P) (w := w) hb a.eval type
      have e2 : execOp a.eval ⟨dst, .call c, type, pos, after, guard⟩ = (do let d ← resolve a.eval c type; invoke d.target d.args) := rfl
      rw [e2, e]
      exact this
    · rename_i f hf
      cases hx : opdOf f with
      | none => simp [hx] at hc
      | some f' =>
        cases hy : opdsOf c.args.toList with
        | none => simp [hx, hy] at hc
        | some as =>
          simp [hx, hy] at hc; subst hc
          simp [evalA] at he
    · cases hc

end
end
end Go.Ab
