/-
  AgendaLoops says true, on all roads: for every order in which the operands are evaluated and the maps are ranged over; it takes no input, and leaves the world as it was. The variables that the row lists are as it says.
-/
import Derived.Test.YtjfhlmakfgbcoaaGreatDoorXRun4
import Derived.Test.YtjfhlmakfgbcoaaGreatDoorXP
import Derived.Test.YtjfhlmakfgbcoaaGreatDoorRows
import Derived.Test.YtjfhlmakfgbcoaaGreatDoorCards
import Derived.Test.YtjfhlmakfgbcoaaGreatDoorTie
import Derived.SevenTiedAt
import Derived.ProofKit
import Derived.OpenShut
import Derived.ChangeSame
import Derived.LaidLaws
import Derived.Lay
import Derived.Stop.LaidErr
namespace Go.Proofs.YtjfhlmakfgbcoaaGreatDoor.agendaLoops
open Go.ChangeShapes Go.WideShapes Go.ChangeAt Go.RowKit

theorem own : ownKnob Tryz.prog.godebug = none := by kernel_rfl
theorem gV : Tryz.prog.globalNamed "strconv.ErrRange" = some 1 := by kernel_rfl
theorem gT : (Tryz.prog.globals[1]?).map (·.type) = some 200 := by kernel_rfl
theorem cellsE : Tryz.prog.cellsOf 390 = 1 := by kernel_rfl
theorem cellsS : Tryz.prog.cellsOf 9 = 1 := by kernel_rfl
theorem star : "*" ++ "errors.errorString" = "*errors.errorString" := by decide
theorem rowP (u : TypeId) (h : Tryz.prog.typeName? 3 u = some "*errors.errorString") : u = 388 :=
  typeName_ptr_named (nm := "errors.errorString") (by rw [star]; kernel_rfl) (by kernel_rfl) (by decide) u (by rw [star]; exact h)
theorem holdsV {W : World} (hL : laidMet Tryz.prog Rows.agendaLoopsRow.laid W) : ∃ te pe, W.cell? ⟨1, 0, none⟩ = some (.iface te pe) := by
  obtain ⟨a, s, hv, -, -, -⟩ := laid_sentinel hL.tail.tail.tail gV gT Tryz.underlying200 rowP Tryz.underlying388 Tryz.underlying390 rfl rfl Tryz.underlying9 cellsE cellsS
  exact ⟨_, _, by have h0 := World.var?_cell gV hv 0; simpa using h0⟩
theorem contract (W : World) (hL : laidMet Tryz.prog Rows.agendaLoopsRow.laid W) : Calls Tryz.prog 4 #[] W fun e W' => e = .returned (.bool true) ∧ Go.Ab.GrownB W W' := by
  obtain ⟨te, pe, hc⟩ := holdsV hL
  exact Go.Ab.calls_run Tryz.checked.mixed env_ok le_ok tab_ok (fn := A4) (by kernel_rfl) (Go.Ab.relH_gvar hc) run4
set_option maxRecDepth 100000 in
theorem lifted (os : Os) (started : os.Started) (H : Type) (enc : TypeId × Value → H) :
    ReturnsInHanded {} Tryz.checked os 4 .any (fun w args => (Rows.agendaLoopsSpec.pre enc Tryz.prog Tryz.f4 Rows.agendaLoopsRow.domain false w args ∧ laidMet Tryz.prog Rows.agendaLoopsRow.laid w) ∧ sizedMet enc Tryz.prog Tryz.f4 (OpenSpec.ofChange Rows.agendaLoopsSpec) false w args)
      (Rows.agendaLoopsSpec.post enc Tryz.prog Tryz.f4 false true false false) := by
  refine returnsInHanded_of_change_and (C := Tryz.checked) (X := fun w _ => laidMet Tryz.prog Rows.agendaLoopsRow.laid w) (fun _ _ _ hh h => h.of_heap hh) own started (by kernel_rfl) Tryz.func4
    (ChangeSpec.witness_at (enc := enc) (C := Tryz.checked) (os := os) (X := fun w _ => laidMet Tryz.prog Rows.agendaLoopsRow.laid w) false (World.laidAll Tryz.prog os Rows.agendaLoopsRow.laid) #[] 8 (World.laidAll_os _ _ _) (by kernel_rfl) (by kernel_rfl) (by kernel_rfl) (by kernel_rfl) (by kernel_rfl) (laidMet_laidAll _ (by kernel_rfl) (by kernel_rfl))) ?_
  intro W base args ds gs before hval0 hW hcnd _ hL _
  have hW' := hW
  obtain ⟨p, q, hA0, hV, rfl, hfz, hnd⟩ := hW
  have hA : DataW.TrodAll enc Tryz.prog W 0 (fun _ => true) true Tryz.f4.params.toList args.toList ds p := hA0
  rw [Tryz.params4] at hA
  obtain ⟨hargs, rfl, rfl⟩ := trodAll_nil hA
  obtain rfl : args = #[] := by cases args; simp_all
  obtain ⟨rfl, rfl⟩ := trodVars_none hV
  clear hA0 hval0
  simp only [List.append_nil] at hW'
  refine (contract W hL).mono fun e W' ⟨he, hg⟩ => ?_
  subst he
  exact ⟨_, rfl, Go.Ab.post_same (pa := []) (pv := []) hW' (fun _ _ _ => trodAll_cons_mk (shut_bool Tryz.underlying4 _) trodAll_mk0) (fun _ _ => trodAll_mk0) (fun _ _ => rfl) rfl
    (hg.frame _) hg.2.1 (ok_one (by kernel_rfl) rfl (okWide_bool_mk Tryz.underlying4 _))⟩

theorem fact1 : (Rows.agendaLoopsRow.inPlace == Tryz.pinned.checked.prog.inPlace 4) = true := by kernel_rfl
theorem fact2 : (Rows.agendaLoopsRow.unfollowed == Tryz.pinned.checked.prog.unfollowed 4) = true := by kernel_rfl
theorem fact3 : (Rows.agendaLoopsRow.recurses == Tryz.pinned.checked.prog.recurses 4) = true := by kernel_rfl
theorem fact4 : (Rows.agendaLoopsRow.named == Tryz.pinned.checked.prog.varsNamed 4) = true := by kernel_rfl
theorem fact5 : Tryz.pinned.checked.prog.funcNamed Rows.agendaLoopsRow.func = some 4 := by kernel_rfl
theorem closed : joinedFacts Tryz.pinned.checked.prog 4 Tryz.f4 Rows.agendaLoopsSpec Rows.agendaLoopsRow = true := by
  unfold joinedFacts
  rw [fact1, fact2, fact3, fact4]
  kernel_rfl
theorem fact6 : Tryz.f4.isInstance Tryz.pinned.checked.prog Rows.agendaLoopsRow.origin Rows.agendaLoopsRow.targs := of_decide_eq_true (by kernel_rfl)
theorem fact7 : Tryz.f4.isWrapper Tryz.pinned.checked.prog Rows.agendaLoopsRow.wrapper Rows.agendaLoopsRow.mainSum := by
  unfold Func.isWrapper; first | (rw [if_pos (by decide +kernel)]; kernel_rfl) | (rw [if_neg (by decide +kernel)]; exact ⟨rfl, rfl⟩)
theorem said : Rows.AgendaLoopsSaid :=
  OpenClaim.holds_of_wide 4 Tryz.f4 rfl rfl rfl rfl rfl rfl rfl ⟨rfl, rfl, rfl, rfl, rfl⟩ rfl rfl rfl rfl rfl fact5 Tryz.func4 closed fact6 fact7
    (fun os started H enc _ => lifted os started H enc)

theorem fact8 : Rows.agendaLoopsRow.wfByText (OpenSpec.ofChange Rows.agendaLoopsSpec) = true := by kernel_rfl
theorem fact9 : Tryz.pinned.checked.prog.mainIs = some ((true, "d62f7bb0626a40357a1353d564f671e379145ae73425378aa03f8f6c1c573b43").1, (true, "d62f7bb0626a40357a1353d564f671e379145ae73425378aa03f8f6c1c573b43").2.toList) := by kernel_rfl
theorem fact10 : true = Tryz.pinned.checked.prog.looks [] := by kernel_rfl
theorem fact11 : false = Rows.agendaLoopsRow.goesBy Tryz.pinned.checked.prog := by kernel_rfl
theorem card : Rows.AgendaLoopsCardSaid :=
  Claim7.holds_tied_plain_at .later [] [.data, .data, .data, .sentinel, .sentinel] true (true, "d62f7bb0626a40357a1353d564f671e379145ae73425378aa03f8f6c1c573b43") true said (fun _ h => by cases h) fact8 (fun _ h => by cases h) agendaLoops_row_tie rfl ⟨rfl, rfl⟩ fact9 rfl
    (fun f fn hf hfn => by
      obtain rfl : f = 4 := Option.some.inj (fact5.symm.trans hf) |>.symm
      obtain rfl : fn = Tryz.f4 := (Option.some.inj (Tryz.func4.symm.trans hfn)).symm
      exact ⟨fact10, fun j t ht => by
        rw [Tryz.params4] at ht
        simp at ht⟩)
    fact11

end Go.Proofs.YtjfhlmakfgbcoaaGreatDoor.agendaLoops
