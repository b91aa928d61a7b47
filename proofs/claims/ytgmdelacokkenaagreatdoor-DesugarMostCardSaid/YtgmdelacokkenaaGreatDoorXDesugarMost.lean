/-
  DesugarMost says true, on all roads: for every order in which the operands are evaluated and the maps are ranged over; it takes no input, and leaves the world as it was. The variables that the row lists are as it says.
-/
import Derived.Test.YtgmdelacokkenaaGreatDoorXRun3
import Derived.Test.YtgmdelacokkenaaGreatDoorXP
import Derived.Test.YtgmdelacokkenaaGreatDoorRows
import Derived.Test.YtgmdelacokkenaaGreatDoorCards
import Derived.Test.YtgmdelacokkenaaGreatDoorTie
import Derived.SevenTiedAt
import Derived.ProofKit
import Derived.OpenShut
import Derived.ChangeSame
import Derived.LaidLaws
import Derived.Lay
import Derived.Stop.LaidErr
namespace Go.Proofs.YtgmdelacokkenaaGreatDoor.desugarMost
open Go.ChangeShapes Go.WideShapes Go.ChangeAt Go.RowKit

theorem own : ownKnob Tryz.prog.godebug = none := by kernel_rfl
theorem gV : Tryz.prog.globalNamed "strconv.ErrRange" = some 1 := by kernel_rfl
theorem gT : (Tryz.prog.globals[1]?).map (·.type) = some 131 := by kernel_rfl
theorem cellsE : Tryz.prog.cellsOf 182 = 1 := by kernel_rfl
theorem cellsS : Tryz.prog.cellsOf 9 = 1 := by kernel_rfl
theorem star : "*" ++ "errors.errorString" = "*errors.errorString" := by decide
theorem rowP (u : TypeId) (h : Tryz.prog.typeName? 3 u = some "*errors.errorString") : u = 180 :=
  typeName_ptr_named (nm := "errors.errorString") (by rw [star]; kernel_rfl) (by kernel_rfl) (by decide) u (by rw [star]; exact h)
theorem holdsV {W : World} (hL : laidMet Tryz.prog Rows.desugarMostRow.laid W) : ∃ te pe, W.cell? ⟨1, 0, none⟩ = some (.iface te pe) := by
  obtain ⟨a, s, hv, -, -, -⟩ := laid_sentinel hL.tail.tail.tail gV gT Tryz.underlying131 rowP Tryz.underlying180 Tryz.underlying182 rfl rfl Tryz.underlying9 cellsE cellsS
  exact ⟨_, _, by have h0 := World.var?_cell gV hv 0; simpa using h0⟩
theorem contract (W : World) (hL : laidMet Tryz.prog Rows.desugarMostRow.laid W) : Calls Tryz.prog 3 #[] W fun e W' => e = .returned (.bool true) ∧ Go.Ab.GrownB W W' := by
  obtain ⟨te, pe, hc⟩ := holdsV hL
  exact Go.Ab.calls_runN Tryz.checked.mixed (env_ok1 Tryz.checked.mixed) (fn := D3) (by kernel_rfl) (Go.Ab.relH_gvar hc) run3
set_option maxRecDepth 100000 in
theorem lifted (os : Os) (started : os.Started) (H : Type) (enc : TypeId × Value → H) :
    ReturnsInHanded {} Tryz.checked os 3 .any (fun w args => (Rows.desugarMostSpec.pre enc Tryz.prog Tryz.f3 Rows.desugarMostRow.domain false w args ∧ laidMet Tryz.prog Rows.desugarMostRow.laid w) ∧ sizedMet enc Tryz.prog Tryz.f3 (OpenSpec.ofChange Rows.desugarMostSpec) false w args)
      (Rows.desugarMostSpec.post enc Tryz.prog Tryz.f3 false true false false) := by
  refine returnsInHanded_of_change_and (C := Tryz.checked) (X := fun w _ => laidMet Tryz.prog Rows.desugarMostRow.laid w) (fun _ _ _ hh h => h.of_heap hh) own started (by kernel_rfl) Tryz.func3
    (ChangeSpec.witness_at (enc := enc) (C := Tryz.checked) (os := os) (X := fun w _ => laidMet Tryz.prog Rows.desugarMostRow.laid w) false (World.laidAll Tryz.prog os Rows.desugarMostRow.laid) #[] 8 (World.laidAll_os _ _ _) (by kernel_rfl) (by kernel_rfl) (by kernel_rfl) (by kernel_rfl) (by kernel_rfl) (laidMet_laidAll _ (by kernel_rfl) (by kernel_rfl))) ?_
  intro W base args ds gs before hval0 hW hcnd _ hL _
  have hW' := hW
  obtain ⟨p, q, hA0, hV, rfl, hfz, hnd⟩ := hW
  have hA : DataW.TrodAll enc Tryz.prog W 0 (fun _ => true) true Tryz.f3.params.toList args.toList ds p := hA0
  rw [Tryz.params3] at hA
  obtain ⟨hargs, rfl, rfl⟩ := trodAll_nil hA
  obtain rfl : args = #[] := by cases args; simp_all
  obtain ⟨rfl, rfl⟩ := trodVars_none hV
  clear hA0 hval0
  simp only [List.append_nil] at hW'
  refine (contract W hL).mono fun e W' ⟨he, hg⟩ => ?_
  subst he
  exact ⟨_, rfl, Go.Ab.post_same (pa := []) (pv := []) hW' (fun _ _ _ => trodAll_cons_mk (shut_bool Tryz.underlying4 _) trodAll_mk0) (fun _ _ => trodAll_mk0) (fun _ _ => rfl) rfl
    (hg.frame _) hg.2.1 (ok_one (by kernel_rfl) rfl (okWide_bool_mk Tryz.underlying4 _))⟩

theorem fact1 : (Rows.desugarMostRow.inPlace == Tryz.pinned.checked.prog.inPlace 3) = true := by kernel_rfl
theorem fact2 : (Rows.desugarMostRow.unfollowed == Tryz.pinned.checked.prog.unfollowed 3) = true := by kernel_rfl
theorem fact3 : (Rows.desugarMostRow.recurses == Tryz.pinned.checked.prog.recurses 3) = true := by kernel_rfl
theorem fact4 : (Rows.desugarMostRow.named == Tryz.pinned.checked.prog.varsNamed 3) = true := by kernel_rfl
theorem fact5 : Tryz.pinned.checked.prog.funcNamed Rows.desugarMostRow.func = some 3 := by kernel_rfl
theorem closed : joinedFacts Tryz.pinned.checked.prog 3 Tryz.f3 Rows.desugarMostSpec Rows.desugarMostRow = true := by
  unfold joinedFacts
  rw [fact1, fact2, fact3, fact4]
  kernel_rfl
theorem fact6 : Tryz.f3.isInstance Tryz.pinned.checked.prog Rows.desugarMostRow.origin Rows.desugarMostRow.targs := of_decide_eq_true (by kernel_rfl)
theorem fact7 : Tryz.f3.isWrapper Tryz.pinned.checked.prog Rows.desugarMostRow.wrapper Rows.desugarMostRow.mainSum := by
  unfold Func.isWrapper; first | (rw [if_pos (by decide +kernel)]; kernel_rfl) | (rw [if_neg (by decide +kernel)]; exact ⟨rfl, rfl⟩)
theorem said : Rows.DesugarMostSaid :=
  OpenClaim.holds_of_wide 3 Tryz.f3 rfl rfl rfl rfl rfl rfl rfl ⟨rfl, rfl, rfl, rfl, rfl⟩ rfl rfl rfl rfl rfl fact5 Tryz.func3 closed fact6 fact7
    (fun os started H enc _ => lifted os started H enc)

theorem fact8 : Rows.desugarMostRow.wfByText (OpenSpec.ofChange Rows.desugarMostSpec) = true := by kernel_rfl
theorem fact9 : Tryz.pinned.checked.prog.mainIs = some ((true, "801a166e9f4a1b1812b4c56b89f1b0490f1f92e4e480a3e924119d95010d31fe").1, (true, "801a166e9f4a1b1812b4c56b89f1b0490f1f92e4e480a3e924119d95010d31fe").2.toList) := by kernel_rfl
theorem fact10 : true = Tryz.pinned.checked.prog.looks [] := by kernel_rfl
theorem fact11 : false = Rows.desugarMostRow.goesBy Tryz.pinned.checked.prog := by kernel_rfl
theorem card : Rows.DesugarMostCardSaid :=
  Claim7.holds_tied_plain_at .later [] [.data, .data, .data, .sentinel, .sentinel] true (true, "801a166e9f4a1b1812b4c56b89f1b0490f1f92e4e480a3e924119d95010d31fe") true said (fun _ h => by cases h) fact8 (fun _ h => by cases h) desugarMost_row_tie rfl ⟨rfl, rfl⟩ fact9 rfl
    (fun f fn hf hfn => by
      obtain rfl : f = 3 := Option.some.inj (fact5.symm.trans hf) |>.symm
      obtain rfl : fn = Tryz.f3 := (Option.some.inj (Tryz.func3.symm.trans hfn)).symm
      exact ⟨fact10, fun j t ht => by
        rw [Tryz.params3] at ht
        simp at ht⟩)
    fact11

end Go.Proofs.YtgmdelacokkenaaGreatDoor.desugarMost
