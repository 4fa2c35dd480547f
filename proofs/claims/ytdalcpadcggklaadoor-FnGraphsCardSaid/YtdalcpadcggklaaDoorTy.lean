/- Proved here: closed facts on the types and functions of the program -/
import Derived.Test.YtdalcpadcggklaaDoorK8
import Derived.Test.YtdalcpadcggklaaDoorProg
namespace Go.Proofs.YtdalcpadcggklaaDoor
open Go Go.RowKit
set_option linter.unusedVariables false
set_option linter.unusedSimpArgs false
set_option maxRecDepth 100000
set_option maxHeartbeats 40000000

theorem fn_ok_21 : callOkB Tryd.prog 21 = true := by kernel_rfl
theorem fn_ok_28 : callOkB Tryd.prog 28 = true := by kernel_rfl
theorem fn_ok_29 : callOkB Tryd.prog 29 = true := by kernel_rfl
theorem fn_ok_33 : callOkB Tryd.prog 33 = true := by kernel_rfl
theorem fn_ok_34 : callOkB Tryd.prog 34 = true := by kernel_rfl
theorem fn_ok_35 : callOkB Tryd.prog 35 = true := by kernel_rfl
theorem fn_ok_36 : callOkB Tryd.prog 36 = true := by kernel_rfl
theorem fn_ok_37 : callOkB Tryd.prog 37 = true := by kernel_rfl
theorem fn_ok_38 : callOkB Tryd.prog 38 = true := by kernel_rfl
theorem fn_ok_39 : callOkB Tryd.prog 39 = true := by kernel_rfl
theorem fn_ok_40 : callOkB Tryd.prog 40 = true := by kernel_rfl
theorem fn_ok_41 : callOkB Tryd.prog 41 = true := by kernel_rfl
theorem fn_ok_42 : callOkB Tryd.prog 42 = true := by kernel_rfl
theorem fn_ok_43 : callOkB Tryd.prog 43 = true := by kernel_rfl
theorem fn_ok_44 : callOkB Tryd.prog 44 = true := by kernel_rfl
theorem fn_ok_45 : callOkB Tryd.prog 45 = true := by kernel_rfl
theorem fn_ok_46 : callOkB Tryd.prog 46 = true := by kernel_rfl
theorem fn_ok_47 : callOkB Tryd.prog 47 = true := by kernel_rfl
theorem fn_ok_48 : callOkB Tryd.prog 48 = true := by kernel_rfl
theorem fn_ok_49 : callOkB Tryd.prog 49 = true := by kernel_rfl
theorem fn_ok_5 : callOkB Tryd.prog 5 = true := by kernel_rfl
theorem fn_ok_50 : callOkB Tryd.prog 50 = true := by kernel_rfl
theorem fn_ok_51 : callOkB Tryd.prog 51 = true := by kernel_rfl
theorem fn_ok_52 : callOkB Tryd.prog 52 = true := by kernel_rfl
theorem fn_ok_53 : callOkB Tryd.prog 53 = true := by kernel_rfl
theorem fn_ok_54 : callOkB Tryd.prog 54 = true := by kernel_rfl
theorem fn_ok_55 : callOkB Tryd.prog 55 = true := by kernel_rfl
theorem fn_ok_56 : callOkB Tryd.prog 56 = true := by kernel_rfl
theorem fn_ok_57 : callOkB Tryd.prog 57 = true := by kernel_rfl
theorem fn_ok_61 : callOkB Tryd.prog 61 = true := by kernel_rfl
theorem fn_ok_62 : callOkB Tryd.prog 62 = true := by kernel_rfl
theorem fn_ok_63 : callOkB Tryd.prog 63 = true := by kernel_rfl
theorem fn_ok_66 : callOkB Tryd.prog 66 = true := by kernel_rfl
theorem fn_ok_69 : callOkB Tryd.prog 69 = true := by kernel_rfl
theorem fn_ok_71 : callOkB Tryd.prog 71 = true := by kernel_rfl
theorem fn_ok_72 : callOkB Tryd.prog 72 = true := by kernel_rfl
theorem fn_ok_73 : callOkB Tryd.prog 73 = true := by kernel_rfl
theorem fn_ok_74 : callOkB Tryd.prog 74 = true := by kernel_rfl
theorem fn_ok_75 : callOkB Tryd.prog 75 = true := by kernel_rfl
theorem fn_ok_76 : callOkB Tryd.prog 76 = true := by kernel_rfl
theorem fn_ok_77 : callOkB Tryd.prog 77 = true := by kernel_rfl
theorem fn_ok_78 : callOkB Tryd.prog 78 = true := by kernel_rfl
theorem fn_ok_79 : callOkB Tryd.prog 79 = true := by kernel_rfl
theorem fn_ok_8 : callOkB Tryd.prog 8 = true := by kernel_rfl
theorem fn_ok_80 : callOkB Tryd.prog 80 = true := by kernel_rfl
theorem fn_ok_81 : callOkB Tryd.prog 81 = true := by kernel_rfl
theorem fn_ok_82 : callOkB Tryd.prog 82 = true := by kernel_rfl
theorem fn_ok_83 : callOkB Tryd.prog 83 = true := by kernel_rfl
theorem fn_ok_84 : callOkB Tryd.prog 84 = true := by kernel_rfl
theorem fn_ok_85 : callOkB Tryd.prog 85 = true := by kernel_rfl
theorem fn_ok_86 : callOkB Tryd.prog 86 = true := by kernel_rfl
theorem fn_ok_87 : callOkB Tryd.prog 87 = true := by kernel_rfl
theorem fn_ok_88 : callOkB Tryd.prog 88 = true := by kernel_rfl
theorem fn_ok_89 : callOkB Tryd.prog 89 = true := by kernel_rfl
theorem fn_ok_92 : callOkB Tryd.prog 92 = true := by kernel_rfl
theorem fn_ok_93 : callOkB Tryd.prog 93 = true := by kernel_rfl
theorem fn_ok_94 : callOkB Tryd.prog 94 = true := by kernel_rfl
theorem fn_ok_95 : callOkB Tryd.prog 95 = true := by kernel_rfl
theorem fn_ok_96 : callOkB Tryd.prog 96 = true := by kernel_rfl
theorem fn_ok_97 : callOkB Tryd.prog 97 = true := by kernel_rfl
theorem ty_ag_22 : aggB Tryd.prog 22 = some false := by kernel_rfl
theorem ty_ag_24 : aggB Tryd.prog 24 = some false := by kernel_rfl
theorem ty_ag_26 : aggB Tryd.prog 26 = some true := by kernel_rfl
theorem ty_ag_3 : aggB Tryd.prog 3 = some false := by kernel_rfl
theorem ty_ag_5 : aggB Tryd.prog 5 = some false := by kernel_rfl
theorem ty_ag_9 : aggB Tryd.prog 9 = some false := by kernel_rfl
theorem ty_el_24 : ElT Tryd.prog 24 (Value.slice none 0 0) 24 := by unfold ElT; kernel_rfl
theorem ty_el_3 : ElT Tryd.prog 3 (Value.int IntKind.i64 0) 8 := by unfold ElT; kernel_rfl
theorem ty_el_5 : ElT Tryd.prog 5 (Value.int IntKind.u8 0) 1 := by unfold ElT; kernel_rfl
theorem ty_el_9 : ElT Tryd.prog 9 (Value.string (bs [])) 16 := by unfold ElT; kernel_rfl
theorem ty_fd_26_0 : fdB Tryd.prog 26 0 = some 0 := by kernel_rfl
theorem ty_fd_26_1 : fdB Tryd.prog 26 1 = some 1 := by kernel_rfl
theorem ty_fd_84_0 : fdB Tryd.prog 84 0 = some 0 := by kernel_rfl
theorem ty_fd_84_1 : fdB Tryd.prog 84 1 = some 1 := by kernel_rfl
theorem ty_fd_84_2 : fdB Tryd.prog 84 2 = some 2 := by kernel_rfl
theorem ty_mixed : Tryd.prog.follows .mixedOrders = true := by kernel_rfl
theorem ty_st_26 : stB Tryd.prog 26 = some [(Value.int IntKind.i64 0), (Value.slice none 0 0)] := by kernel_rfl
theorem ty_st_84 : stB Tryd.prog 84 = some [(Value.slice none 0 0), (Value.int IntKind.i64 0), (Value.int IntKind.i64 0)] := by kernel_rfl
theorem ty_sz_24 : (Tryd.prog.info? 24).map (fun i => i.size) = some 1 := by kernel_rfl
theorem ty_sz_26 : (Tryd.prog.info? 26).map (fun i => i.size) = some 2 := by kernel_rfl
theorem ty_sz_3 : (Tryd.prog.info? 3).map (fun i => i.size) = some 1 := by kernel_rfl
theorem ty_zr_26 : (Tryd.prog.info? 26).map (fun i => i.zero) = some (some (Value.agg #[(Value.int IntKind.i64 0), (Value.slice none 0 0)])) := by kernel_rfl

end Go.Proofs.YtdalcpadcggklaaDoor
