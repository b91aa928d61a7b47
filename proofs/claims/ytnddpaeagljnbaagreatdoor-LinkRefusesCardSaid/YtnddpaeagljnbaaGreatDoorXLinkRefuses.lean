/-
  LinkRefuses says true, on all roads: for every order in which the operands are evaluated and the maps are ranged over; it takes no input, and leaves the world as it was. The variables that the row lists are as it says.
-/
import Derived.Test.YtnddpaeagljnbaaGreatDoorXRun3
import Derived.Test.YtnddpaeagljnbaaGreatDoorXP
import Derived.Test.YtnddpaeagljnbaaGreatDoorRows
import Derived.Test.YtnddpaeagljnbaaGreatDoorCards
import Derived.Test.YtnddpaeagljnbaaGreatDoorTie
import Derived.SevenTiedAt
import Derived.ProofKit
import Derived.OpenShut
import Derived.ChangeSame
import Derived.LaidLaws
import Derived.Lay
import Derived.Stop.LaidErr
namespace Go.Proofs.YtnddpaeagljnbaaGreatDoor.linkRefuses
open Go.ChangeShapes Go.WideShapes Go.ChangeAt Go.RowKit

theorem own : ownKnob Tryz.prog.godebug = none := by kernel_rfl
theorem contract (W : World) : Calls Tryz.prog 3 #[] W fun e W' => e = .returned (.bool true) ∧ Go.Ab.GrownB W W' :=
  Go.Ab.calls_run Tryz.checked.mixed env_ok le_ok tab_ok (fn := A3) (by kernel_rfl) ⟨_, Go.Ab.relH_empty W⟩ run3
set_option maxRecDepth 100000 in
theorem lifted (os : Os) (started : os.Started) (H : Type) (enc : TypeId × Value → H) :
    ReturnsInHanded {} Tryz.checked os 3 .any (fun w args => (Rows.linkRefusesSpec.pre enc Tryz.prog Tryz.f3 Rows.linkRefusesRow.domain false w args ∧ laidMet Tryz.prog Rows.linkRefusesRow.laid w) ∧ sizedMet enc Tryz.prog Tryz.f3 (OpenSpec.ofChange Rows.linkRefusesSpec) false w args)
      (Rows.linkRefusesSpec.post enc Tryz.prog Tryz.f3 false true false false) := by
  refine returnsInHanded_of_change_and (C := Tryz.checked) (X := fun w _ => laidMet Tryz.prog Rows.linkRefusesRow.laid w) (fun _ _ _ hh h => h.of_heap hh) own started (by kernel_rfl) Tryz.func3
    (ChangeSpec.witness_at (enc := enc) (C := Tryz.checked) (os := os) (X := fun w _ => laidMet Tryz.prog Rows.linkRefusesRow.laid w) false (World.laidAll Tryz.prog os Rows.linkRefusesRow.laid) #[] 8 (World.laidAll_os _ _ _) (by kernel_rfl) (by kernel_rfl) (by kernel_rfl) (by kernel_rfl) (by kernel_rfl) (laidMet_laidAll _ (by kernel_rfl) (by kernel_rfl))) ?_
  intro W base args ds gs before hval0 hW hcnd _ hL _
  have hW' := hW
  obtain ⟨p, q, hA0, hV, rfl, hfz, hnd⟩ := hW
  have hA : DataW.TrodAll enc Tryz.prog W 0 (fun _ => true) true Tryz.f3.params.toList args.toList ds p := hA0
  rw [Tryz.params3] at hA
  obtain ⟨hargs, rfl, rfl⟩ := trodAll_nil hA
  obtain rfl : args = #[] := by cases args; simp_all
  obtain ⟨rfl, rfl⟩ := trodVars_none hV
  clear hA0 hval0
  simp only [List.append_nil] at hW'
  refine (contract W).mono fun e W' ⟨he, hg⟩ => ?_
  subst he
  exact ⟨_, rfl, Go.Ab.post_same (pa := []) (pv := []) hW' (fun _ _ _ => trodAll_cons_mk (shut_bool Tryz.underlying4 _) trodAll_mk0) (fun _ _ => trodAll_mk0) (fun _ _ => rfl) rfl
    (hg.frame _) hg.2.1 (ok_one (by kernel_rfl) rfl (okWide_bool_mk Tryz.underlying4 _))⟩

theorem fact1 : (Rows.linkRefusesRow.inPlace == Tryz.pinned.checked.prog.inPlace 3) = true := by kernel_rfl
theorem fact2 : (Rows.linkRefusesRow.unfollowed == Tryz.pinned.checked.prog.unfollowed 3) = true := by kernel_rfl
theorem fact3 : (Rows.linkRefusesRow.recurses == Tryz.pinned.checked.prog.recurses 3) = true := by kernel_rfl
theorem fact4 : (Rows.linkRefusesRow.named == Tryz.pinned.checked.prog.varsNamed 3) = true := by kernel_rfl
theorem fact5 : Tryz.pinned.checked.prog.funcNamed Rows.linkRefusesRow.func = some 3 := by kernel_rfl
theorem closed : joinedFacts Tryz.pinned.checked.prog 3 Tryz.f3 Rows.linkRefusesSpec Rows.linkRefusesRow = true := by
  unfold joinedFacts
  rw [fact1, fact2, fact3, fact4]
  kernel_rfl
theorem fact6 : Tryz.f3.isInstance Tryz.pinned.checked.prog Rows.linkRefusesRow.origin Rows.linkRefusesRow.targs := of_decide_eq_true (by kernel_rfl)
theorem fact7 : Tryz.f3.isWrapper Tryz.pinned.checked.prog Rows.linkRefusesRow.wrapper Rows.linkRefusesRow.mainSum := by
  unfold Func.isWrapper; first | (rw [if_pos (by decide +kernel)]; kernel_rfl) | (rw [if_neg (by decide +kernel)]; exact ⟨rfl, rfl⟩)
theorem said : Rows.LinkRefusesSaid :=
  OpenClaim.holds_of_wide 3 Tryz.f3 rfl rfl rfl rfl rfl rfl rfl ⟨rfl, rfl, rfl, rfl, rfl⟩ rfl rfl rfl rfl rfl fact5 Tryz.func3 closed fact6 fact7
    (fun os started H enc _ => lifted os started H enc)

theorem fact8 : Rows.linkRefusesRow.wfByText (OpenSpec.ofChange Rows.linkRefusesSpec) = true := by kernel_rfl
theorem fact9 : Tryz.pinned.checked.prog.mainIs = some ((true, "07a61e2042dc7c4f9b9ebf66252f0c52d4d201573efee10352a77422c6844569").1, (true, "07a61e2042dc7c4f9b9ebf66252f0c52d4d201573efee10352a77422c6844569").2.toList) := by kernel_rfl
theorem fact10 : true = Tryz.pinned.checked.prog.looks [] := by kernel_rfl
theorem fact11 : false = Rows.linkRefusesRow.goesBy Tryz.pinned.checked.prog := by kernel_rfl
theorem card : Rows.LinkRefusesCardSaid :=
  Claim7.holds_tied_plain_at .later [] [.data, .data, .data, .sentinel, .sentinel] true (true, "07a61e2042dc7c4f9b9ebf66252f0c52d4d201573efee10352a77422c6844569") true said (fun _ h => by cases h) fact8 (fun _ h => by cases h) linkRefuses_row_tie rfl ⟨rfl, rfl⟩ fact9 rfl
    (fun f fn hf hfn => by
      obtain rfl : f = 3 := Option.some.inj (fact5.symm.trans hf) |>.symm
      obtain rfl : fn = Tryz.f3 := (Option.some.inj (Tryz.func3.symm.trans hfn)).symm
      exact ⟨fact10, fun j t ht => by
        rw [Tryz.params3] at ht
        simp at ht⟩)
    fact11

end Go.Proofs.YtnddpaeagljnbaaGreatDoor.linkRefuses
