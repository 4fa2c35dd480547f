/- Proved here: closed facts on the types and functions of the program -/
import Derived.Test.YtilfniehellmmaaK8
import Derived.Test.YtilfniehellmmaaProg
namespace Go.Proofs.Ytilfniehellmmaa
open Go Go.RowKit
set_option linter.unusedVariables false
set_option linter.unusedSimpArgs false
set_option maxRecDepth 100000
set_option maxHeartbeats 40000000

theorem fn_ok_100 : callOkB Try.prog 100 = true := by kernel_rfl
theorem fn_ok_101 : callOkB Try.prog 101 = true := by kernel_rfl
theorem fn_ok_102 : callOkB Try.prog 102 = true := by kernel_rfl
theorem fn_ok_103 : callOkB Try.prog 103 = true := by kernel_rfl
theorem fn_ok_104 : callOkB Try.prog 104 = true := by kernel_rfl
theorem fn_ok_105 : callOkB Try.prog 105 = true := by kernel_rfl
theorem fn_ok_106 : callOkB Try.prog 106 = true := by kernel_rfl
theorem fn_ok_107 : callOkB Try.prog 107 = true := by kernel_rfl
theorem fn_ok_108 : callOkB Try.prog 108 = true := by kernel_rfl
theorem fn_ok_109 : callOkB Try.prog 109 = true := by kernel_rfl
theorem fn_ok_110 : callOkB Try.prog 110 = true := by kernel_rfl
theorem fn_ok_111 : callOkB Try.prog 111 = true := by kernel_rfl
theorem fn_ok_112 : callOkB Try.prog 112 = true := by kernel_rfl
theorem fn_ok_113 : callOkB Try.prog 113 = true := by kernel_rfl
theorem fn_ok_114 : callOkB Try.prog 114 = true := by kernel_rfl
theorem fn_ok_115 : callOkB Try.prog 115 = true := by kernel_rfl
theorem fn_ok_118 : callOkB Try.prog 118 = true := by kernel_rfl
theorem fn_ok_119 : callOkB Try.prog 119 = true := by kernel_rfl
theorem fn_ok_120 : callOkB Try.prog 120 = true := by kernel_rfl
theorem fn_ok_121 : callOkB Try.prog 121 = true := by kernel_rfl
theorem fn_ok_122 : callOkB Try.prog 122 = true := by kernel_rfl
theorem fn_ok_123 : callOkB Try.prog 123 = true := by kernel_rfl
theorem fn_ok_124 : callOkB Try.prog 124 = true := by kernel_rfl
theorem fn_ok_125 : callOkB Try.prog 125 = true := by kernel_rfl
theorem fn_ok_126 : callOkB Try.prog 126 = true := by kernel_rfl
theorem fn_ok_127 : callOkB Try.prog 127 = true := by kernel_rfl
theorem fn_ok_128 : callOkB Try.prog 128 = true := by kernel_rfl
theorem fn_ok_129 : callOkB Try.prog 129 = true := by kernel_rfl
theorem fn_ok_130 : callOkB Try.prog 130 = true := by kernel_rfl
theorem fn_ok_131 : callOkB Try.prog 131 = true := by kernel_rfl
theorem fn_ok_132 : callOkB Try.prog 132 = true := by kernel_rfl
theorem fn_ok_24 : callOkB Try.prog 24 = true := by kernel_rfl
theorem fn_ok_26 : callOkB Try.prog 26 = true := by kernel_rfl
theorem fn_ok_46 : callOkB Try.prog 46 = true := by kernel_rfl
theorem fn_ok_47 : callOkB Try.prog 47 = true := by kernel_rfl
theorem fn_ok_48 : callOkB Try.prog 48 = true := by kernel_rfl
theorem fn_ok_49 : callOkB Try.prog 49 = true := by kernel_rfl
theorem fn_ok_50 : callOkB Try.prog 50 = true := by kernel_rfl
theorem fn_ok_51 : callOkB Try.prog 51 = true := by kernel_rfl
theorem fn_ok_52 : callOkB Try.prog 52 = true := by kernel_rfl
theorem fn_ok_53 : callOkB Try.prog 53 = true := by kernel_rfl
theorem fn_ok_54 : callOkB Try.prog 54 = true := by kernel_rfl
theorem fn_ok_55 : callOkB Try.prog 55 = true := by kernel_rfl
theorem fn_ok_56 : callOkB Try.prog 56 = true := by kernel_rfl
theorem fn_ok_57 : callOkB Try.prog 57 = true := by kernel_rfl
theorem fn_ok_58 : callOkB Try.prog 58 = true := by kernel_rfl
theorem fn_ok_59 : callOkB Try.prog 59 = true := by kernel_rfl
theorem fn_ok_60 : callOkB Try.prog 60 = true := by kernel_rfl
theorem fn_ok_61 : callOkB Try.prog 61 = true := by kernel_rfl
theorem fn_ok_62 : callOkB Try.prog 62 = true := by kernel_rfl
theorem fn_ok_63 : callOkB Try.prog 63 = true := by kernel_rfl
theorem fn_ok_64 : callOkB Try.prog 64 = true := by kernel_rfl
theorem fn_ok_65 : callOkB Try.prog 65 = true := by kernel_rfl
theorem fn_ok_73 : callOkB Try.prog 73 = true := by kernel_rfl
theorem fn_ok_74 : callOkB Try.prog 74 = true := by kernel_rfl
theorem fn_ok_76 : callOkB Try.prog 76 = true := by kernel_rfl
theorem fn_ok_81 : callOkB Try.prog 81 = true := by kernel_rfl
theorem fn_ok_84 : callOkB Try.prog 84 = true := by kernel_rfl
theorem fn_ok_86 : callOkB Try.prog 86 = true := by kernel_rfl
theorem fn_ok_87 : callOkB Try.prog 87 = true := by kernel_rfl
theorem fn_ok_91 : callOkB Try.prog 91 = true := by kernel_rfl
theorem fn_ok_92 : callOkB Try.prog 92 = true := by kernel_rfl
theorem fn_ok_93 : callOkB Try.prog 93 = true := by kernel_rfl
theorem fn_ok_94 : callOkB Try.prog 94 = true := by kernel_rfl
theorem fn_ok_95 : callOkB Try.prog 95 = true := by kernel_rfl
theorem fn_ok_96 : callOkB Try.prog 96 = true := by kernel_rfl
theorem fn_ok_97 : callOkB Try.prog 97 = true := by kernel_rfl
theorem fn_ok_98 : callOkB Try.prog 98 = true := by kernel_rfl
theorem fn_ok_99 : callOkB Try.prog 99 = true := by kernel_rfl
theorem ty_ag_22 : aggB Try.prog 22 = some false := by kernel_rfl
theorem ty_ag_28 : aggB Try.prog 28 = some true := by kernel_rfl
theorem ty_ag_3 : aggB Try.prog 3 = some false := by kernel_rfl
theorem ty_ag_37 : aggB Try.prog 37 = some false := by kernel_rfl
theorem ty_ag_5 : aggB Try.prog 5 = some false := by kernel_rfl
theorem ty_ag_9 : aggB Try.prog 9 = some false := by kernel_rfl
theorem ty_el_3 : ElT Try.prog 3 (Value.int IntKind.i64 0) 8 := by unfold ElT; kernel_rfl
theorem ty_el_5 : ElT Try.prog 5 (Value.int IntKind.u8 0) 1 := by unfold ElT; kernel_rfl
theorem ty_el_9 : ElT Try.prog 9 (Value.string (bs [])) 16 := by unfold ElT; kernel_rfl
theorem ty_fd_28_0 : fdB Try.prog 28 0 = some 0 := by kernel_rfl
theorem ty_fd_28_1 : fdB Try.prog 28 1 = some 1 := by kernel_rfl
theorem ty_fd_82_0 : fdB Try.prog 82 0 = some 0 := by kernel_rfl
theorem ty_fd_82_1 : fdB Try.prog 82 1 = some 1 := by kernel_rfl
theorem ty_fd_82_2 : fdB Try.prog 82 2 = some 2 := by kernel_rfl
theorem ty_mixed : Try.prog.follows .mixedOrders = true := by kernel_rfl
theorem ty_st_28 : stB Try.prog 28 = some [(Value.int IntKind.i64 0), (Value.slice none 0 0)] := by kernel_rfl
theorem ty_st_82 : stB Try.prog 82 = some [(Value.slice none 0 0), (Value.int IntKind.i64 0), (Value.int IntKind.i64 0)] := by kernel_rfl
theorem ty_sz_28 : (Try.prog.info? 28).map (fun i => i.size) = some 2 := by kernel_rfl
theorem ty_sz_3 : (Try.prog.info? 3).map (fun i => i.size) = some 1 := by kernel_rfl
theorem ty_zr_28 : (Try.prog.info? 28).map (fun i => i.zero) = some (some (Value.agg #[(Value.int IntKind.i64 0), (Value.slice none 0 0)])) := by kernel_rfl

end Go.Proofs.Ytilfniehellmmaa
