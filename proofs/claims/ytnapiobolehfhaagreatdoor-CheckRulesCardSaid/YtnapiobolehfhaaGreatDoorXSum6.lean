/-
  A function's run, its parts joined (printed by wip/tools/parts.py).
-/
import Derived.Test.YtnapiobolehfhaaGreatDoorXPart6_0
import Derived.Test.YtnapiobolehfhaaGreatDoorXPart6_1
import Derived.Test.YtnapiobolehfhaaGreatDoorXPart6_2
import Derived.Test.YtnapiobolehfhaaGreatDoorXPart6_3
namespace Go.Proofs.YtnapiobolehfhaaGreatDoor
open Go.Ab
set_option maxRecDepth 100000

theorem le0_6 : PrimLe E := envP_le prims_le
def outs6 : List (AV × Cut) := [((.bool true), ct6_8_0)]
theorem w6_3_0 (K : Kont) (hK : ∀ v e, (v, e) ∈ outs6 → K v e.st.h = true) : runC (callN E 300) 300 b6_3 ct6_8_0.st (finK D6.res K) = true :=
  hK (.bool true) ct6_8_0 (by simp [outs6])
theorem w6_2_0 (K : Kont) (hK : ∀ v e, (v, e) ∈ outs6 → K v e.st.h = true) : runC (callN E 300) 300 b6_2 en6_4_0.st (finK D6.res K) = true :=
  cut_parts (callT_le le0_6 tab_ok 300) q6_2_0 (show AllE (fun c => runC (callN E 300) 300 b6_3 c.st (finK D6.res K) = true) ct6_8 from ⟨w6_3_0 K hK, trivial⟩).get
theorem w6_1_0 (K : Kont) (hK : ∀ v e, (v, e) ∈ outs6 → K v e.st.h = true) : runC (callN E 300) 300 b6_1 en6_3_0.st (finK D6.res K) = true :=
  loop_parts (callT_le le0_6 tab_ok 300) q6_1_0 ((show AllH (runC (callT E tab 300) 300 bd6_4) hd6_4 en6_4 2 1 hd6_4 0 from ⟨r6_4_0, r6_4_1, r6_4_2, r6_4_3, r6_4_4, r6_4_5, r6_4_6, r6_4_7, r6_4_8, r6_4_9, r6_4_10, r6_4_11, r6_4_12, r6_4_13, r6_4_14, trivial⟩).all) (by decide) (show AllE (fun c => runC (callN E 300) 300 b6_2 c.st (finK D6.res K) = true) en6_4 from ⟨w6_2_0 K hK, trivial⟩).get
theorem w6_0_0 (K : Kont) (hK : ∀ v e, (v, e) ∈ outs6 → K v e.st.h = true) : runC (callN E 300) 300 b6_0 st6.st (finK D6.res K) = true :=
  loop_parts (callT_le le0_6 tab_ok 300) q6_0_0 ((show AllH (runC (callT E tab 300) 300 bd6_3) hd6_3 en6_3 0 1 hd6_3 0 from ⟨r6_3_0, r6_3_1, r6_3_2, r6_3_3, r6_3_4, trivial⟩).all) (by decide) (show AllE (fun c => runC (callN E 300) 300 b6_1 c.st (finK D6.res K) = true) en6_3 from ⟨w6_1_0 K hK, trivial⟩).get
noncomputable def sum6 : Prim := sumP as6 in6 outs6
theorem sum6_ok (hmix : Tryz.prog.follows .mixedOrders = true) (hE : EnvOK Tryz.prog E) : PrimOK Tryz.prog 6 sum6 :=
  sumP_ok hmix hE (fuel := 300 + 1) (by kernel_rfl) fun h K hc hK => callN_of_run2 le0_6 (by kernel_rfl) (fn := D6) (by kernel_rfl) (by kernel_rfl) (by kernel_rfl) (first_part (covers_args hc rfl rfl (by kernel_rfl)) (w6_0_0 K hK))
end Go.Proofs.YtnapiobolehfhaaGreatDoor
