/-
  The functions that the law enters, some calls by what is proved of their runs (printed by wip/tools/inst2.py).
-/
import Derived.Test.YtgmdelacokkenaaGreatDoorXInst
import Derived.KernelRfl
namespace Go.Proofs.YtgmdelacokkenaaGreatDoor
open Go.Ab
set_option maxRecDepth 100000

noncomputable def prims1 : List (Nat × Prim) := [(5, sumsP E A5 insts5), (10, sumsP E A10 insts10), (23, flatP E A23 flats23), (68, pIntP 160 1), (114, idxByte), (119, noEsc)]
theorem prims_le1 : AllMono prims1 := ⟨sumsP_mono _ _ _, sumsP_mono _ _ _, flatP_mono _ _ _, pIntP_mono _ _, idxByte_mono, noEsc_mono, trivial⟩
theorem leE : PrimLe E := envP_le prims_le
theorem si5_ok (hmix : Tryz.prog.follows .mixedOrders = true) (hE : EnvOK Tryz.prog E) : PrimOK Tryz.prog 5 (sumsP E A5 insts5) :=
  instsP_ok hmix hE (by kernel_rfl) 700 (fun i hi => by simp only [insts5, List.mem_cons, List.not_mem_nil, or_false] at hi; rcases hi with rfl | rfl | rfl | rfl | rfl | rfl | rfl <;> rfl) fun i hi => by
    simp only [insts5, List.mem_cons, List.not_mem_nil, or_false] at hi
    rcases hi with rfl | rfl | rfl | rfl | rfl | rfl | rfl
    · exact callT_le leE tab_ok 700 _ _ _ _ _ qi5_0 fun _ _ q => q
    · exact callT_le leE tab_ok 700 _ _ _ _ _ qi5_1 fun _ _ q => q
    · exact callT_le leE tab_ok 700 _ _ _ _ _ qi5_2 fun _ _ q => q
    · exact callT_le leE tab_ok 700 _ _ _ _ _ qi5_3 fun _ _ q => q
    · exact callT_le leE tab_ok 700 _ _ _ _ _ qi5_4 fun _ _ q => q
    · exact callT_le leE tab_ok 700 _ _ _ _ _ qi5_5 fun _ _ q => q
    · exact callT_le leE tab_ok 700 _ _ _ _ _ qi5_6 fun _ _ q => q
theorem si10_ok (hmix : Tryz.prog.follows .mixedOrders = true) (hE : EnvOK Tryz.prog E) : PrimOK Tryz.prog 10 (sumsP E A10 insts10) :=
  instsP_ok hmix hE (by kernel_rfl) 700 (fun i hi => by simp only [insts10, List.mem_cons, List.not_mem_nil, or_false] at hi; rcases hi with rfl | rfl <;> rfl) fun i hi => by
    simp only [insts10, List.mem_cons, List.not_mem_nil, or_false] at hi
    rcases hi with rfl | rfl
    · exact callT_le leE tab_ok 700 _ _ _ _ _ qi10_0 fun _ _ q => q
    · exact callT_le leE tab_ok 700 _ _ _ _ _ qi10_1 fun _ _ q => q
theorem si23_ok (hmix : Tryz.prog.follows .mixedOrders = true) (hE : EnvOK Tryz.prog E) : PrimOK Tryz.prog 23 (flatP E A23 flats23) :=
  flatP_ok hmix hE (by kernel_rfl) 700 (fun i hi => by simp only [flats23, List.mem_cons, List.not_mem_nil, or_false] at hi; rcases hi with rfl | rfl | rfl | rfl | rfl <;> exact ⟨rfl, rfl⟩) fun i hi => by
    simp only [flats23, List.mem_cons, List.not_mem_nil, or_false] at hi
    rcases hi with rfl | rfl | rfl | rfl | rfl
    · exact callT_le leE tab_ok 700 _ _ _ _ _ qf23_0 fun _ _ q => q
    · exact callT_le leE tab_ok 700 _ _ _ _ _ qf23_1 fun _ _ q => q
    · exact callT_le leE tab_ok 700 _ _ _ _ _ qf23_2 fun _ _ q => q
    · exact callT_le leE tab_ok 700 _ _ _ _ _ qf23_3 fun _ _ q => q
    · exact callT_le leE tab_ok 700 _ _ _ _ _ qf23_4 fun _ _ q => q
noncomputable def E1 : Env := envP tbl prims1
theorem v1_6 : ShOK E1 6 w6 := w6_ok (by kernel_rfl) (by kernel_rfl)
theorem v1_8 : ShOK E1 8 w8 := w8_ok (by kernel_rfl) (by kernel_rfl)
theorem v1_9 : ShOK E1 9 w9 := w9_ok (by kernel_rfl) (by kernel_rfl)
theorem v1_11 : ShOK E1 11 w11 := w11_ok (by kernel_rfl) (by kernel_rfl)
theorem v1_12 : ShOK E1 12 w12 := w12_ok (by kernel_rfl) (by kernel_rfl)
theorem v1_13 : ShOK E1 13 w13 := w13_ok (by kernel_rfl) (by kernel_rfl)
theorem v1_14 : ShOK E1 14 w14 := w14_ok (by kernel_rfl) (by kernel_rfl)
theorem v1_15 : ShOK E1 15 w15 := w15_ok (by kernel_rfl) (by kernel_rfl)
theorem v1_16 : ShOK E1 16 w16 := w16_ok (by kernel_rfl) (by kernel_rfl)
theorem v1_17 : ShOK E1 17 w17 := w17_ok (by kernel_rfl) (by kernel_rfl)
theorem v1_18 : ShOK E1 18 w18 := w18_ok (by kernel_rfl) (by kernel_rfl)
theorem v1_19 : ShOK E1 19 w19 := w19_ok (by kernel_rfl) (by kernel_rfl)
theorem v1_20 : ShOK E1 20 w20 := w20_ok (by kernel_rfl) (by kernel_rfl)
theorem v1_21 : ShOK E1 21 w21 := w21_ok (by kernel_rfl) (by kernel_rfl)
theorem v1_22 : ShOK E1 22 w22 := w22_ok (by kernel_rfl) (by kernel_rfl)
theorem v1_24 : ShOK E1 24 w24 := w24_ok (by kernel_rfl) (by kernel_rfl)
theorem v1_25 : ShOK E1 25 w25 := w25_ok (by kernel_rfl) (by kernel_rfl)
theorem v1_26 : ShOK E1 26 w26 := w26_ok (by kernel_rfl) (by kernel_rfl)
theorem v1_27 : ShOK E1 27 w27 := w27_ok (by kernel_rfl) (by kernel_rfl)
theorem v1_28 : ShOK E1 28 w28 := w28_ok (by kernel_rfl) (by kernel_rfl)
theorem v1_29 : ShOK E1 29 w29 := w29_ok (by kernel_rfl) (by kernel_rfl)
theorem v1_32 : ShOK E1 32 w32 := w32_ok (by kernel_rfl) (by kernel_rfl)
theorem v1_33 : ShOK E1 33 w33 := w33_ok (by kernel_rfl) (by kernel_rfl)
theorem v1_34 : ShOK E1 34 w34 := w34_ok (by kernel_rfl) (by kernel_rfl)
theorem v1_35 : ShOK E1 35 w35 := w35_ok (by kernel_rfl) (by kernel_rfl)
theorem v1_37 : ShOK E1 37 w37 := w37_ok (by kernel_rfl) (by kernel_rfl)
theorem v1_39 : ShOK E1 39 w39 := w39_ok (by kernel_rfl) (by kernel_rfl)
theorem v1_40 : ShOK E1 40 w40 := w40_ok (by kernel_rfl) (by kernel_rfl)
theorem v1_42 : ShOK E1 42 w42 := w42_ok (by kernel_rfl) (by kernel_rfl)
theorem v1_45 : ShOK E1 45 w45 := w45_ok (by kernel_rfl) (by kernel_rfl)
theorem v1_46 : ShOK E1 46 w46 := w46_ok (by kernel_rfl) (by kernel_rfl)
theorem v1_47 : ShOK E1 47 w47 := w47_ok (by kernel_rfl) (by kernel_rfl)
theorem v1_48 : ShOK E1 48 w48 := w48_ok (by kernel_rfl) (by kernel_rfl)
theorem v1_49 : ShOK E1 49 w49 := w49_ok (by kernel_rfl) (by kernel_rfl)
theorem v1_50 : ShOK E1 50 w50 := w50_ok (by kernel_rfl) (by kernel_rfl)
theorem v1_52 : ShOK E1 52 w52 := w52_ok (by kernel_rfl) (by kernel_rfl)
theorem v1_53 : ShOK E1 53 w53 := w53_ok (by kernel_rfl) (by kernel_rfl)
theorem v1_55 : ShOK E1 55 w55 := w55_ok (by kernel_rfl) (by kernel_rfl)
theorem v1_57 : ShOK E1 57 w57 := w57_ok (by kernel_rfl) (by kernel_rfl)
theorem v1_60 : ShOK E1 60 w60 := w60_ok (by kernel_rfl) (by kernel_rfl)
theorem v1_62 : ShOK E1 62 w62 := w62_ok (by kernel_rfl) (by kernel_rfl)
theorem v1_63 : ShOK E1 63 w63 := w63_ok (by kernel_rfl) (by kernel_rfl)
theorem v1_64 : ShOK E1 64 w64 := w64_ok (by kernel_rfl) (by kernel_rfl)
theorem v1_65 : ShOK E1 65 w65 := w65_ok (by kernel_rfl) (by kernel_rfl)
theorem v1_66 : ShOK E1 66 w66 := w66_ok (by kernel_rfl) (by kernel_rfl)
theorem v1_67 : ShOK E1 67 w67 := w67_ok (by kernel_rfl) (by kernel_rfl)
theorem v1_69 : ShOK E1 69 w69 := w69_ok (by kernel_rfl) (by kernel_rfl)
theorem v1_72 : ShOK E1 72 w72 := w72_ok (by kernel_rfl) (by kernel_rfl)
theorem v1_73 : ShOK E1 73 w73 := w73_ok (by kernel_rfl) (by kernel_rfl)
theorem v1_74 : ShOK E1 74 w74 := w74_ok (by kernel_rfl) (by kernel_rfl)
theorem v1_78 : ShOK E1 78 w78 := w78_ok (by kernel_rfl) (by kernel_rfl)
theorem v1_79 : ShOK E1 79 w79 := w79_ok (by kernel_rfl) (by kernel_rfl)
theorem v1_82 : ShOK E1 82 w82 := w82_ok (by kernel_rfl) (by kernel_rfl)
theorem v1_85 : ShOK E1 85 w85 := w85_ok (by kernel_rfl) (by kernel_rfl)
theorem v1_86 : ShOK E1 86 w86 := w86_ok (by kernel_rfl) (by kernel_rfl)
theorem v1_87 : ShOK E1 87 w87 := w87_ok (by kernel_rfl) (by kernel_rfl)
theorem v1_88 : ShOK E1 88 w88 := w88_ok (by kernel_rfl) (by kernel_rfl)
theorem v1_89 : ShOK E1 89 w89 := w89_ok (by kernel_rfl) (by kernel_rfl)
theorem v1_90 : ShOK E1 90 w90 := w90_ok (by kernel_rfl) (by kernel_rfl)
theorem v1_91 : ShOK E1 91 w91 := w91_ok (by kernel_rfl) (by kernel_rfl)
theorem v1_92 : ShOK E1 92 w92 := w92_ok (by kernel_rfl) (by kernel_rfl)
theorem v1_93 : ShOK E1 93 w93 := w93_ok (by kernel_rfl) (by kernel_rfl)
theorem v1_103 : ShOK E1 103 w103 := w103_ok (by kernel_rfl) (by kernel_rfl)
theorem v1_104 : ShOK E1 104 w104 := w104_ok (by kernel_rfl) (by kernel_rfl)
theorem v1_105 : ShOK E1 105 w105 := w105_ok (by kernel_rfl) (by kernel_rfl)
theorem v1_106 : ShOK E1 106 w106 := w106_ok (by kernel_rfl) (by kernel_rfl)
theorem v1_107 : ShOK E1 107 w107 := w107_ok (by kernel_rfl) (by kernel_rfl)
theorem v1_115 : ShOK E1 115 w115 := w115_ok (by kernel_rfl) (by kernel_rfl)
theorem v1_116 : ShOK E1 116 w116 := w116_ok (by kernel_rfl) (by kernel_rfl)
noncomputable def shs1 : List (Nat × Sh) := [(6, w6), (8, w8), (9, w9), (11, w11), (12, w12), (13, w13), (14, w14), (15, w15), (16, w16), (17, w17), (18, w18), (19, w19), (20, w20), (21, w21), (22, w22), (24, w24), (25, w25), (26, w26), (27, w27), (28, w28), (29, w29), (32, w32), (33, w33), (34, w34), (35, w35), (37, w37), (39, w39), (40, w40), (42, w42), (45, w45), (46, w46), (47, w47), (48, w48), (49, w49), (50, w50), (52, w52), (53, w53), (55, w55), (57, w57), (60, w60), (62, w62), (63, w63), (64, w64), (65, w65), (66, w66), (67, w67), (69, w69), (72, w72), (73, w73), (74, w74), (78, w78), (79, w79), (82, w82), (85, w85), (86, w86), (87, w87), (88, w88), (89, w89), (90, w90), (91, w91), (92, w92), (93, w93), (103, w103), (104, w104), (105, w105), (106, w106), (107, w107), (115, w115), (116, w116)]
theorem shs_ok1 : AllSh E1 shs1 := ⟨v1_6, v1_8, v1_9, v1_11, v1_12, v1_13, v1_14, v1_15, v1_16, v1_17, v1_18, v1_19, v1_20, v1_21, v1_22, v1_24, v1_25, v1_26, v1_27, v1_28, v1_29, v1_32, v1_33, v1_34, v1_35, v1_37, v1_39, v1_40, v1_42, v1_45, v1_46, v1_47, v1_48, v1_49, v1_50, v1_52, v1_53, v1_55, v1_57, v1_60, v1_62, v1_63, v1_64, v1_65, v1_66, v1_67, v1_69, v1_72, v1_73, v1_74, v1_78, v1_79, v1_82, v1_85, v1_86, v1_87, v1_88, v1_89, v1_90, v1_91, v1_92, v1_93, v1_103, v1_104, v1_105, v1_106, v1_107, v1_115, v1_116, trivial⟩
noncomputable def tabT1 : PT Sh := (.nd none (.nd none (.nd none (.nd (some w21) (.nd (some w85) .lf .lf .lf .lf) .lf .lf .lf) (.nd (some w37) .lf .lf .lf .lf) (.nd (some w53) .lf .lf .lf .lf) (.nd (some w69) .lf .lf .lf .lf)) (.nd (some w9) (.nd (some w25) (.nd (some w89) .lf .lf .lf .lf) .lf .lf .lf) (.nd none (.nd (some w105) .lf .lf .lf .lf) .lf .lf .lf) (.nd (some w57) .lf .lf .lf .lf) (.nd (some w73) .lf .lf .lf .lf)) (.nd (some w13) (.nd (some w29) (.nd (some w93) .lf .lf .lf .lf) .lf .lf .lf) (.nd (some w45) .lf .lf .lf .lf) .lf .lf) (.nd (some w17) (.nd (some w33) .lf .lf .lf .lf) (.nd (some w49) .lf .lf .lf .lf) (.nd (some w65) .lf .lf .lf .lf) .lf)) (.nd none (.nd (some w6) (.nd (some w22) (.nd (some w86) .lf .lf .lf .lf) .lf .lf .lf) .lf .lf .lf) (.nd none (.nd (some w26) (.nd (some w90) .lf .lf .lf .lf) .lf .lf .lf) (.nd (some w42) (.nd (some w106) .lf .lf .lf .lf) .lf .lf .lf) .lf (.nd (some w74) .lf .lf .lf .lf)) (.nd (some w14) .lf (.nd (some w46) .lf .lf .lf .lf) (.nd (some w62) .lf .lf .lf .lf) (.nd (some w78) .lf .lf .lf .lf)) (.nd (some w18) (.nd (some w34) .lf .lf .lf .lf) (.nd (some w50) .lf .lf .lf .lf) (.nd (some w66) .lf .lf .lf .lf) (.nd (some w82) .lf .lf .lf .lf))) (.nd none (.nd none (.nd none (.nd (some w87) .lf .lf .lf .lf) .lf .lf .lf) (.nd (some w39) (.nd (some w103) .lf .lf .lf .lf) .lf .lf .lf) (.nd (some w55) .lf .lf .lf .lf) .lf) (.nd (some w11) (.nd (some w27) (.nd (some w91) .lf .lf .lf .lf) .lf .lf .lf) (.nd none (.nd (some w107) .lf .lf .lf .lf) .lf .lf .lf) .lf .lf) (.nd (some w15) .lf (.nd (some w47) .lf .lf .lf .lf) (.nd (some w63) .lf .lf .lf .lf) (.nd (some w79) .lf .lf .lf .lf)) (.nd (some w19) (.nd (some w35) .lf .lf .lf .lf) (.nd none (.nd (some w115) .lf .lf .lf .lf) .lf .lf .lf) (.nd (some w67) .lf .lf .lf .lf) .lf)) (.nd none (.nd (some w8) (.nd (some w24) (.nd (some w88) .lf .lf .lf .lf) .lf .lf .lf) (.nd (some w40) (.nd (some w104) .lf .lf .lf .lf) .lf .lf .lf) .lf (.nd (some w72) .lf .lf .lf .lf)) (.nd (some w12) (.nd (some w28) (.nd (some w92) .lf .lf .lf .lf) .lf .lf .lf) .lf (.nd (some w60) .lf .lf .lf .lf) .lf) (.nd (some w16) (.nd (some w32) .lf .lf .lf .lf) (.nd (some w48) .lf .lf .lf .lf) (.nd (some w64) .lf .lf .lf .lf) .lf) (.nd (some w20) .lf (.nd (some w52) (.nd (some w116) .lf .lf .lf .lf) .lf .lf .lf) .lf .lf)))
theorem tabT1_eq : tabT1 = tabL shs1 := by kernel_rfl
noncomputable def tab1 (k : Nat) : Option Sh := tabT1.get k
theorem tab_ok1 : ∀ k s, tab1 k = some s → ShOK E1 k s := by
  unfold tab1
  rw [tabT1_eq]
  exact tabL_ok shs_ok1
theorem prims_ok1 (hmix : Tryz.prog.follows .mixedOrders = true) (hE : EnvOK Tryz.prog E) (hp : AllPrim Tryz.prog prims) : AllPrim Tryz.prog prims1 := ⟨si5_ok hmix hE, si10_ok hmix hE, si23_ok hmix hE, hp⟩
end Go.Proofs.YtgmdelacokkenaaGreatDoor
