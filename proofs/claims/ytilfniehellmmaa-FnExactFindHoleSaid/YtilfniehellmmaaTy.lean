/- Proved here: closed facts on the types and functions of the program -/
import Derived.Test.YtilfniehellmmaaK8
import Derived.Test.YtilfniehellmmaaProg
namespace Go.Proofs.Ytilfniehellmmaa
open Go Go.RowKit
set_option linter.unusedVariables false
set_option linter.unusedSimpArgs false
set_option maxRecDepth 100000
set_option maxHeartbeats 4000000

theorem fn_ok_10 : callOkB Try.prog 10 = true := by kernel_rfl
theorem fn_ok_100 : callOkB Try.prog 100 = true := by kernel_rfl
theorem fn_ok_101 : callOkB Try.prog 101 = true := by kernel_rfl
theorem fn_ok_102 : callOkB Try.prog 102 = true := by kernel_rfl
theorem fn_ok_103 : callOkB Try.prog 103 = true := by kernel_rfl
theorem fn_ok_104 : callOkB Try.prog 104 = true := by kernel_rfl
theorem fn_ok_105 : callOkB Try.prog 105 = true := by kernel_rfl
theorem fn_ok_106 : callOkB Try.prog 106 = true := by kernel_rfl
theorem fn_ok_107 : callOkB Try.prog 107 = true := by kernel_rfl
theorem fn_ok_108 : callOkB Try.prog 108 = true := by kernel_rfl
theorem fn_ok_109 : callOkB Try.prog 109 = true := by kernel_rfl
theorem fn_ok_11 : callOkB Try.prog 11 = true := by kernel_rfl
theorem fn_ok_110 : callOkB Try.prog 110 = true := by kernel_rfl
theorem fn_ok_111 : callOkB Try.prog 111 = true := by kernel_rfl
theorem fn_ok_112 : callOkB Try.prog 112 = true := by kernel_rfl
theorem fn_ok_113 : callOkB Try.prog 113 = true := by kernel_rfl
theorem fn_ok_114 : callOkB Try.prog 114 = true := by kernel_rfl
theorem fn_ok_115 : callOkB Try.prog 115 = true := by kernel_rfl
theorem fn_ok_116 : callOkB Try.prog 116 = true := by kernel_rfl
theorem fn_ok_117 : callOkB Try.prog 117 = true := by kernel_rfl
theorem fn_ok_12 : callOkB Try.prog 12 = true := by kernel_rfl
theorem fn_ok_123 : callOkB Try.prog 123 = true := by kernel_rfl
theorem fn_ok_124 : callOkB Try.prog 124 = true := by kernel_rfl
theorem fn_ok_125 : callOkB Try.prog 125 = true := by kernel_rfl
theorem fn_ok_126 : callOkB Try.prog 126 = true := by kernel_rfl
theorem fn_ok_127 : callOkB Try.prog 127 = true := by kernel_rfl
theorem fn_ok_13 : callOkB Try.prog 13 = true := by kernel_rfl
theorem fn_ok_132 : callOkB Try.prog 132 = true := by kernel_rfl
theorem fn_ok_14 : callOkB Try.prog 14 = true := by kernel_rfl
theorem fn_ok_15 : callOkB Try.prog 15 = true := by kernel_rfl
theorem fn_ok_16 : callOkB Try.prog 16 = true := by kernel_rfl
theorem fn_ok_17 : callOkB Try.prog 17 = true := by kernel_rfl
theorem fn_ok_18 : callOkB Try.prog 18 = true := by kernel_rfl
theorem fn_ok_19 : callOkB Try.prog 19 = true := by kernel_rfl
theorem fn_ok_20 : callOkB Try.prog 20 = true := by kernel_rfl
theorem fn_ok_21 : callOkB Try.prog 21 = true := by kernel_rfl
theorem fn_ok_22 : callOkB Try.prog 22 = true := by kernel_rfl
theorem fn_ok_23 : callOkB Try.prog 23 = true := by kernel_rfl
theorem fn_ok_24 : callOkB Try.prog 24 = true := by kernel_rfl
theorem fn_ok_25 : callOkB Try.prog 25 = true := by kernel_rfl
theorem fn_ok_26 : callOkB Try.prog 26 = true := by kernel_rfl
theorem fn_ok_27 : callOkB Try.prog 27 = true := by kernel_rfl
theorem fn_ok_28 : callOkB Try.prog 28 = true := by kernel_rfl
theorem fn_ok_29 : callOkB Try.prog 29 = true := by kernel_rfl
theorem fn_ok_30 : callOkB Try.prog 30 = true := by kernel_rfl
theorem fn_ok_31 : callOkB Try.prog 31 = true := by kernel_rfl
theorem fn_ok_32 : callOkB Try.prog 32 = true := by kernel_rfl
theorem fn_ok_33 : callOkB Try.prog 33 = true := by kernel_rfl
theorem fn_ok_34 : callOkB Try.prog 34 = true := by kernel_rfl
theorem fn_ok_35 : callOkB Try.prog 35 = true := by kernel_rfl
theorem fn_ok_36 : callOkB Try.prog 36 = true := by kernel_rfl
theorem fn_ok_37 : callOkB Try.prog 37 = true := by kernel_rfl
theorem fn_ok_38 : callOkB Try.prog 38 = true := by kernel_rfl
theorem fn_ok_39 : callOkB Try.prog 39 = true := by kernel_rfl
theorem fn_ok_40 : callOkB Try.prog 40 = true := by kernel_rfl
theorem fn_ok_41 : callOkB Try.prog 41 = true := by kernel_rfl
theorem fn_ok_42 : callOkB Try.prog 42 = true := by kernel_rfl
theorem fn_ok_43 : callOkB Try.prog 43 = true := by kernel_rfl
theorem fn_ok_44 : callOkB Try.prog 44 = true := by kernel_rfl
theorem fn_ok_45 : callOkB Try.prog 45 = true := by kernel_rfl
theorem fn_ok_46 : callOkB Try.prog 46 = true := by kernel_rfl
theorem fn_ok_47 : callOkB Try.prog 47 = true := by kernel_rfl
theorem fn_ok_48 : callOkB Try.prog 48 = true := by kernel_rfl
theorem fn_ok_49 : callOkB Try.prog 49 = true := by kernel_rfl
theorem fn_ok_50 : callOkB Try.prog 50 = true := by kernel_rfl
theorem fn_ok_51 : callOkB Try.prog 51 = true := by kernel_rfl
theorem fn_ok_52 : callOkB Try.prog 52 = true := by kernel_rfl
theorem fn_ok_53 : callOkB Try.prog 53 = true := by kernel_rfl
theorem fn_ok_54 : callOkB Try.prog 54 = true := by kernel_rfl
theorem fn_ok_55 : callOkB Try.prog 55 = true := by kernel_rfl
theorem fn_ok_56 : callOkB Try.prog 56 = true := by kernel_rfl
theorem fn_ok_57 : callOkB Try.prog 57 = true := by kernel_rfl
theorem fn_ok_58 : callOkB Try.prog 58 = true := by kernel_rfl
theorem fn_ok_59 : callOkB Try.prog 59 = true := by kernel_rfl
theorem fn_ok_60 : callOkB Try.prog 60 = true := by kernel_rfl
theorem fn_ok_61 : callOkB Try.prog 61 = true := by kernel_rfl
theorem fn_ok_62 : callOkB Try.prog 62 = true := by kernel_rfl
theorem fn_ok_63 : callOkB Try.prog 63 = true := by kernel_rfl
theorem fn_ok_64 : callOkB Try.prog 64 = true := by kernel_rfl
theorem fn_ok_65 : callOkB Try.prog 65 = true := by kernel_rfl
theorem fn_ok_66 : callOkB Try.prog 66 = true := by kernel_rfl
theorem fn_ok_67 : callOkB Try.prog 67 = true := by kernel_rfl
theorem fn_ok_68 : callOkB Try.prog 68 = true := by kernel_rfl
theorem fn_ok_69 : callOkB Try.prog 69 = true := by kernel_rfl
theorem fn_ok_70 : callOkB Try.prog 70 = true := by kernel_rfl
theorem fn_ok_71 : callOkB Try.prog 71 = true := by kernel_rfl
theorem fn_ok_72 : callOkB Try.prog 72 = true := by kernel_rfl
theorem fn_ok_73 : callOkB Try.prog 73 = true := by kernel_rfl
theorem fn_ok_74 : callOkB Try.prog 74 = true := by kernel_rfl
theorem fn_ok_75 : callOkB Try.prog 75 = true := by kernel_rfl
theorem fn_ok_76 : callOkB Try.prog 76 = true := by kernel_rfl
theorem fn_ok_77 : callOkB Try.prog 77 = true := by kernel_rfl
theorem fn_ok_78 : callOkB Try.prog 78 = true := by kernel_rfl
theorem fn_ok_79 : callOkB Try.prog 79 = true := by kernel_rfl
theorem fn_ok_82 : callOkB Try.prog 82 = true := by kernel_rfl
theorem fn_ok_83 : callOkB Try.prog 83 = true := by kernel_rfl
theorem fn_ok_84 : callOkB Try.prog 84 = true := by kernel_rfl
theorem fn_ok_85 : callOkB Try.prog 85 = true := by kernel_rfl
theorem fn_ok_88 : callOkB Try.prog 88 = true := by kernel_rfl
theorem fn_ok_89 : callOkB Try.prog 89 = true := by kernel_rfl
theorem fn_ok_9 : callOkB Try.prog 9 = true := by kernel_rfl
theorem fn_ok_90 : callOkB Try.prog 90 = true := by kernel_rfl
theorem fn_ok_93 : callOkB Try.prog 93 = true := by kernel_rfl
theorem fn_ok_94 : callOkB Try.prog 94 = true := by kernel_rfl
theorem fn_ok_95 : callOkB Try.prog 95 = true := by kernel_rfl
theorem fn_ok_96 : callOkB Try.prog 96 = true := by kernel_rfl
theorem fn_ok_97 : callOkB Try.prog 97 = true := by kernel_rfl
theorem fn_ok_98 : callOkB Try.prog 98 = true := by kernel_rfl
theorem fn_ok_99 : callOkB Try.prog 99 = true := by kernel_rfl
theorem ty_ag_22 : aggB Try.prog 22 = some false := by kernel_rfl
theorem ty_ag_24 : aggB Try.prog 24 = some true := by kernel_rfl
theorem ty_ag_28 : aggB Try.prog 28 = some true := by kernel_rfl
theorem ty_ag_3 : aggB Try.prog 3 = some false := by kernel_rfl
theorem ty_ag_41 : aggB Try.prog 41 = some false := by kernel_rfl
theorem ty_ag_55 : aggB Try.prog 55 = some false := by kernel_rfl
theorem ty_el_3 : ElT Try.prog 3 (Value.int IntKind.i64 0) 8 := by unfold ElT; kernel_rfl
theorem ty_fd_24_0 : fdB Try.prog 24 0 = some 0 := by kernel_rfl
theorem ty_fd_24_1 : fdB Try.prog 24 1 = some 1 := by kernel_rfl
theorem ty_fd_28_0 : fdB Try.prog 28 0 = some 0 := by kernel_rfl
theorem ty_fd_28_1 : fdB Try.prog 28 1 = some 1 := by kernel_rfl
theorem ty_mixed : Try.prog.follows .mixedOrders = true := by kernel_rfl
theorem ty_st_28 : stB Try.prog 28 = some [(Value.int IntKind.i64 0), (Value.slice none 0 0)] := by kernel_rfl
theorem ty_sz_22 : (Try.prog.info? 22).map (fun i => i.size) = some 1 := by kernel_rfl
theorem ty_sz_24 : (Try.prog.info? 24).map (fun i => i.size) = some 2 := by kernel_rfl
theorem ty_sz_28 : (Try.prog.info? 28).map (fun i => i.size) = some 2 := by kernel_rfl
theorem ty_sz_3 : (Try.prog.info? 3).map (fun i => i.size) = some 1 := by kernel_rfl
theorem ty_sz_41 : (Try.prog.info? 41).map (fun i => i.size) = some 1 := by kernel_rfl
theorem ty_zr_28 : (Try.prog.info? 28).map (fun i => i.zero) = some (some (Value.agg #[(Value.int IntKind.i64 0), (Value.slice none 0 0)])) := by kernel_rfl
theorem ty_zr_3 : (Try.prog.info? 3).map (fun i => i.zero) = some (some (Value.int IntKind.i64 0)) := by kernel_rfl
theorem ty_zr_41 : (Try.prog.info? 41).map (fun i => i.zero) = some (some Value.nilFunc) := by kernel_rfl

end Go.Proofs.Ytilfniehellmmaa
