/- Proved here: closed facts on the types and functions of the program -/
import Derived.Test.YtilfniehellmmaaK8
import Derived.Test.YtilfniehellmmaaProg
namespace Go.Proofs.Ytilfniehellmmaa
open Go Go.RowKit
set_option linter.unusedVariables false
set_option linter.unusedSimpArgs false
set_option maxRecDepth 100000
set_option maxHeartbeats 40000000

theorem fn_ok_10 : callOkB Try.prog 10 = true := by kernel_rfl
theorem fn_ok_106 : callOkB Try.prog 106 = true := by kernel_rfl
theorem fn_ok_107 : callOkB Try.prog 107 = true := by kernel_rfl
theorem fn_ok_108 : callOkB Try.prog 108 = true := by kernel_rfl
theorem fn_ok_110 : callOkB Try.prog 110 = true := by kernel_rfl
theorem fn_ok_116 : callOkB Try.prog 116 = true := by kernel_rfl
theorem fn_ok_117 : callOkB Try.prog 117 = true := by kernel_rfl
theorem fn_ok_118 : callOkB Try.prog 118 = true := by kernel_rfl
theorem fn_ok_119 : callOkB Try.prog 119 = true := by kernel_rfl
theorem fn_ok_12 : callOkB Try.prog 12 = true := by kernel_rfl
theorem fn_ok_120 : callOkB Try.prog 120 = true := by kernel_rfl
theorem fn_ok_121 : callOkB Try.prog 121 = true := by kernel_rfl
theorem fn_ok_122 : callOkB Try.prog 122 = true := by kernel_rfl
theorem fn_ok_123 : callOkB Try.prog 123 = true := by kernel_rfl
theorem fn_ok_124 : callOkB Try.prog 124 = true := by kernel_rfl
theorem fn_ok_128 : callOkB Try.prog 128 = true := by kernel_rfl
theorem fn_ok_129 : callOkB Try.prog 129 = true := by kernel_rfl
theorem fn_ok_130 : callOkB Try.prog 130 = true := by kernel_rfl
theorem fn_ok_131 : callOkB Try.prog 131 = true := by kernel_rfl
theorem fn_ok_18 : callOkB Try.prog 18 = true := by kernel_rfl
theorem fn_ok_19 : callOkB Try.prog 19 = true := by kernel_rfl
theorem fn_ok_20 : callOkB Try.prog 20 = true := by kernel_rfl
theorem fn_ok_21 : callOkB Try.prog 21 = true := by kernel_rfl
theorem fn_ok_22 : callOkB Try.prog 22 = true := by kernel_rfl
theorem fn_ok_23 : callOkB Try.prog 23 = true := by kernel_rfl
theorem fn_ok_24 : callOkB Try.prog 24 = true := by kernel_rfl
theorem fn_ok_25 : callOkB Try.prog 25 = true := by kernel_rfl
theorem fn_ok_26 : callOkB Try.prog 26 = true := by kernel_rfl
theorem fn_ok_27 : callOkB Try.prog 27 = true := by kernel_rfl
theorem fn_ok_28 : callOkB Try.prog 28 = true := by kernel_rfl
theorem fn_ok_29 : callOkB Try.prog 29 = true := by kernel_rfl
theorem fn_ok_30 : callOkB Try.prog 30 = true := by kernel_rfl
theorem fn_ok_31 : callOkB Try.prog 31 = true := by kernel_rfl
theorem fn_ok_32 : callOkB Try.prog 32 = true := by kernel_rfl
theorem fn_ok_33 : callOkB Try.prog 33 = true := by kernel_rfl
theorem fn_ok_34 : callOkB Try.prog 34 = true := by kernel_rfl
theorem fn_ok_35 : callOkB Try.prog 35 = true := by kernel_rfl
theorem fn_ok_36 : callOkB Try.prog 36 = true := by kernel_rfl
theorem fn_ok_37 : callOkB Try.prog 37 = true := by kernel_rfl
theorem fn_ok_38 : callOkB Try.prog 38 = true := by kernel_rfl
theorem fn_ok_39 : callOkB Try.prog 39 = true := by kernel_rfl
theorem fn_ok_40 : callOkB Try.prog 40 = true := by kernel_rfl
theorem fn_ok_41 : callOkB Try.prog 41 = true := by kernel_rfl
theorem fn_ok_42 : callOkB Try.prog 42 = true := by kernel_rfl
theorem fn_ok_43 : callOkB Try.prog 43 = true := by kernel_rfl
theorem fn_ok_44 : callOkB Try.prog 44 = true := by kernel_rfl
theorem fn_ok_45 : callOkB Try.prog 45 = true := by kernel_rfl
theorem fn_ok_67 : callOkB Try.prog 67 = true := by kernel_rfl
theorem fn_ok_69 : callOkB Try.prog 69 = true := by kernel_rfl
theorem fn_ok_70 : callOkB Try.prog 70 = true := by kernel_rfl
theorem fn_ok_71 : callOkB Try.prog 71 = true := by kernel_rfl
theorem fn_ok_72 : callOkB Try.prog 72 = true := by kernel_rfl
theorem fn_ok_73 : callOkB Try.prog 73 = true := by kernel_rfl
theorem fn_ok_74 : callOkB Try.prog 74 = true := by kernel_rfl
theorem fn_ok_75 : callOkB Try.prog 75 = true := by kernel_rfl
theorem fn_ok_76 : callOkB Try.prog 76 = true := by kernel_rfl
theorem fn_ok_77 : callOkB Try.prog 77 = true := by kernel_rfl
theorem fn_ok_78 : callOkB Try.prog 78 = true := by kernel_rfl
theorem fn_ok_79 : callOkB Try.prog 79 = true := by kernel_rfl
theorem fn_ok_80 : callOkB Try.prog 80 = true := by kernel_rfl
theorem fn_ok_81 : callOkB Try.prog 81 = true := by kernel_rfl
theorem fn_ok_82 : callOkB Try.prog 82 = true := by kernel_rfl
theorem fn_ok_83 : callOkB Try.prog 83 = true := by kernel_rfl
theorem fn_ok_84 : callOkB Try.prog 84 = true := by kernel_rfl
theorem fn_ok_85 : callOkB Try.prog 85 = true := by kernel_rfl
theorem fn_ok_86 : callOkB Try.prog 86 = true := by kernel_rfl
theorem fn_ok_87 : callOkB Try.prog 87 = true := by kernel_rfl
theorem fn_ok_88 : callOkB Try.prog 88 = true := by kernel_rfl
theorem fn_ok_89 : callOkB Try.prog 89 = true := by kernel_rfl
theorem fn_ok_90 : callOkB Try.prog 90 = true := by kernel_rfl
theorem fn_ok_91 : callOkB Try.prog 91 = true := by kernel_rfl
theorem fn_ok_92 : callOkB Try.prog 92 = true := by kernel_rfl
theorem fn_ok_93 : callOkB Try.prog 93 = true := by kernel_rfl
theorem fn_ok_94 : callOkB Try.prog 94 = true := by kernel_rfl
theorem ty_ag_22 : aggB Try.prog 22 = some false := by kernel_rfl
theorem ty_ag_28 : aggB Try.prog 28 = some true := by kernel_rfl
theorem ty_ag_3 : aggB Try.prog 3 = some false := by kernel_rfl
theorem ty_ag_37 : aggB Try.prog 37 = some false := by kernel_rfl
theorem ty_ag_41 : aggB Try.prog 41 = some false := by kernel_rfl
theorem ty_ag_5 : aggB Try.prog 5 = some false := by kernel_rfl
theorem ty_ag_55 : aggB Try.prog 55 = some false := by kernel_rfl
theorem ty_ag_9 : aggB Try.prog 9 = some false := by kernel_rfl
theorem ty_el_3 : ElT Try.prog 3 (Value.int IntKind.i64 0) 8 := by unfold ElT; kernel_rfl
theorem ty_el_5 : ElT Try.prog 5 (Value.int IntKind.u8 0) 1 := by unfold ElT; kernel_rfl
theorem ty_el_9 : ElT Try.prog 9 (Value.string (bs [])) 16 := by unfold ElT; kernel_rfl
theorem ty_fd_28_0 : fdB Try.prog 28 0 = some 0 := by kernel_rfl
theorem ty_fd_28_1 : fdB Try.prog 28 1 = some 1 := by kernel_rfl
theorem ty_fd_82_0 : fdB Try.prog 82 0 = some 0 := by kernel_rfl
theorem ty_fd_82_1 : fdB Try.prog 82 1 = some 1 := by kernel_rfl
theorem ty_fd_82_2 : fdB Try.prog 82 2 = some 2 := by kernel_rfl
theorem ty_mixed : Try.prog.follows .mixedOrders = true := by kernel_rfl
theorem ty_st_28 : stB Try.prog 28 = some [(Value.int IntKind.i64 0), (Value.slice none 0 0)] := by kernel_rfl
theorem ty_st_82 : stB Try.prog 82 = some [(Value.slice none 0 0), (Value.int IntKind.i64 0), (Value.int IntKind.i64 0)] := by kernel_rfl
theorem ty_sz_22 : (Try.prog.info? 22).map (fun i => i.size) = some 1 := by kernel_rfl
theorem ty_sz_28 : (Try.prog.info? 28).map (fun i => i.size) = some 2 := by kernel_rfl
theorem ty_sz_3 : (Try.prog.info? 3).map (fun i => i.size) = some 1 := by kernel_rfl
theorem ty_sz_41 : (Try.prog.info? 41).map (fun i => i.size) = some 1 := by kernel_rfl
theorem ty_zr_28 : (Try.prog.info? 28).map (fun i => i.zero) = some (some (Value.agg #[(Value.int IntKind.i64 0), (Value.slice none 0 0)])) := by kernel_rfl
theorem ty_zr_3 : (Try.prog.info? 3).map (fun i => i.zero) = some (some (Value.int IntKind.i64 0)) := by kernel_rfl
theorem ty_zr_41 : (Try.prog.info? 41).map (fun i => i.zero) = some (some Value.nilFunc) := by kernel_rfl

end Go.Proofs.Ytilfniehellmmaa
