/- Proved here: closed facts on the types and functions of the program -/
import Derived.Test.YtdalcpadcggklaaDoorK8
import Derived.Test.YtdalcpadcggklaaDoorProg
namespace Go.Proofs.YtdalcpadcggklaaDoor
open Go Go.RowKit
set_option linter.unusedVariables false
set_option linter.unusedSimpArgs false
set_option maxRecDepth 100000
set_option maxHeartbeats 40000000

theorem fn_ok_10 : callOkB Tryd.prog 10 = true := by kernel_rfl
theorem fn_ok_11 : callOkB Tryd.prog 11 = true := by kernel_rfl
theorem fn_ok_12 : callOkB Tryd.prog 12 = true := by kernel_rfl
theorem fn_ok_13 : callOkB Tryd.prog 13 = true := by kernel_rfl
theorem fn_ok_14 : callOkB Tryd.prog 14 = true := by kernel_rfl
theorem fn_ok_15 : callOkB Tryd.prog 15 = true := by kernel_rfl
theorem fn_ok_16 : callOkB Tryd.prog 16 = true := by kernel_rfl
theorem fn_ok_17 : callOkB Tryd.prog 17 = true := by kernel_rfl
theorem fn_ok_18 : callOkB Tryd.prog 18 = true := by kernel_rfl
theorem fn_ok_19 : callOkB Tryd.prog 19 = true := by kernel_rfl
theorem fn_ok_20 : callOkB Tryd.prog 20 = true := by kernel_rfl
theorem fn_ok_21 : callOkB Tryd.prog 21 = true := by kernel_rfl
theorem fn_ok_22 : callOkB Tryd.prog 22 = true := by kernel_rfl
theorem fn_ok_23 : callOkB Tryd.prog 23 = true := by kernel_rfl
theorem fn_ok_24 : callOkB Tryd.prog 24 = true := by kernel_rfl
theorem fn_ok_25 : callOkB Tryd.prog 25 = true := by kernel_rfl
theorem fn_ok_26 : callOkB Tryd.prog 26 = true := by kernel_rfl
theorem fn_ok_27 : callOkB Tryd.prog 27 = true := by kernel_rfl
theorem fn_ok_28 : callOkB Tryd.prog 28 = true := by kernel_rfl
theorem fn_ok_29 : callOkB Tryd.prog 29 = true := by kernel_rfl
theorem fn_ok_30 : callOkB Tryd.prog 30 = true := by kernel_rfl
theorem fn_ok_31 : callOkB Tryd.prog 31 = true := by kernel_rfl
theorem fn_ok_32 : callOkB Tryd.prog 32 = true := by kernel_rfl
theorem fn_ok_39 : callOkB Tryd.prog 39 = true := by kernel_rfl
theorem fn_ok_40 : callOkB Tryd.prog 40 = true := by kernel_rfl
theorem fn_ok_44 : callOkB Tryd.prog 44 = true := by kernel_rfl
theorem fn_ok_5 : callOkB Tryd.prog 5 = true := by kernel_rfl
theorem fn_ok_52 : callOkB Tryd.prog 52 = true := by kernel_rfl
theorem fn_ok_58 : callOkB Tryd.prog 58 = true := by kernel_rfl
theorem fn_ok_59 : callOkB Tryd.prog 59 = true := by kernel_rfl
theorem fn_ok_6 : callOkB Tryd.prog 6 = true := by kernel_rfl
theorem fn_ok_60 : callOkB Tryd.prog 60 = true := by kernel_rfl
theorem fn_ok_61 : callOkB Tryd.prog 61 = true := by kernel_rfl
theorem fn_ok_62 : callOkB Tryd.prog 62 = true := by kernel_rfl
theorem fn_ok_63 : callOkB Tryd.prog 63 = true := by kernel_rfl
theorem fn_ok_64 : callOkB Tryd.prog 64 = true := by kernel_rfl
theorem fn_ok_65 : callOkB Tryd.prog 65 = true := by kernel_rfl
theorem fn_ok_66 : callOkB Tryd.prog 66 = true := by kernel_rfl
theorem fn_ok_67 : callOkB Tryd.prog 67 = true := by kernel_rfl
theorem fn_ok_68 : callOkB Tryd.prog 68 = true := by kernel_rfl
theorem fn_ok_69 : callOkB Tryd.prog 69 = true := by kernel_rfl
theorem fn_ok_7 : callOkB Tryd.prog 7 = true := by kernel_rfl
theorem fn_ok_70 : callOkB Tryd.prog 70 = true := by kernel_rfl
theorem fn_ok_71 : callOkB Tryd.prog 71 = true := by kernel_rfl
theorem fn_ok_72 : callOkB Tryd.prog 72 = true := by kernel_rfl
theorem fn_ok_73 : callOkB Tryd.prog 73 = true := by kernel_rfl
theorem fn_ok_74 : callOkB Tryd.prog 74 = true := by kernel_rfl
theorem fn_ok_75 : callOkB Tryd.prog 75 = true := by kernel_rfl
theorem fn_ok_76 : callOkB Tryd.prog 76 = true := by kernel_rfl
theorem fn_ok_77 : callOkB Tryd.prog 77 = true := by kernel_rfl
theorem fn_ok_79 : callOkB Tryd.prog 79 = true := by kernel_rfl
theorem fn_ok_8 : callOkB Tryd.prog 8 = true := by kernel_rfl
theorem fn_ok_85 : callOkB Tryd.prog 85 = true := by kernel_rfl
theorem fn_ok_86 : callOkB Tryd.prog 86 = true := by kernel_rfl
theorem fn_ok_9 : callOkB Tryd.prog 9 = true := by kernel_rfl
theorem fn_ok_90 : callOkB Tryd.prog 90 = true := by kernel_rfl
theorem fn_ok_91 : callOkB Tryd.prog 91 = true := by kernel_rfl
theorem fn_ok_92 : callOkB Tryd.prog 92 = true := by kernel_rfl
theorem fn_ok_93 : callOkB Tryd.prog 93 = true := by kernel_rfl
theorem fn_ok_94 : callOkB Tryd.prog 94 = true := by kernel_rfl
theorem fn_ok_97 : callOkB Tryd.prog 97 = true := by kernel_rfl
theorem ty_ag_22 : aggB Tryd.prog 22 = some false := by kernel_rfl
theorem ty_ag_24 : aggB Tryd.prog 24 = some false := by kernel_rfl
theorem ty_ag_26 : aggB Tryd.prog 26 = some true := by kernel_rfl
theorem ty_ag_3 : aggB Tryd.prog 3 = some false := by kernel_rfl
theorem ty_ag_5 : aggB Tryd.prog 5 = some false := by kernel_rfl
theorem ty_ag_9 : aggB Tryd.prog 9 = some false := by kernel_rfl
theorem ty_el_24 : ElT Tryd.prog 24 (Value.slice none 0 0) 24 := by unfold ElT; kernel_rfl
theorem ty_el_3 : ElT Tryd.prog 3 (Value.int IntKind.i64 0) 8 := by unfold ElT; kernel_rfl
theorem ty_el_5 : ElT Tryd.prog 5 (Value.int IntKind.u8 0) 1 := by unfold ElT; kernel_rfl
theorem ty_el_9 : ElT Tryd.prog 9 (Value.string (bs [])) 16 := by unfold ElT; kernel_rfl
theorem ty_fd_26_0 : fdB Tryd.prog 26 0 = some 0 := by kernel_rfl
theorem ty_fd_26_1 : fdB Tryd.prog 26 1 = some 1 := by kernel_rfl
theorem ty_fd_84_0 : fdB Tryd.prog 84 0 = some 0 := by kernel_rfl
theorem ty_fd_84_1 : fdB Tryd.prog 84 1 = some 1 := by kernel_rfl
theorem ty_fd_84_2 : fdB Tryd.prog 84 2 = some 2 := by kernel_rfl
theorem ty_mixed : Tryd.prog.follows .mixedOrders = true := by kernel_rfl
theorem ty_st_26 : stB Tryd.prog 26 = some [(Value.int IntKind.i64 0), (Value.slice none 0 0)] := by kernel_rfl
theorem ty_st_84 : stB Tryd.prog 84 = some [(Value.slice none 0 0), (Value.int IntKind.i64 0), (Value.int IntKind.i64 0)] := by kernel_rfl
theorem ty_sz_24 : (Tryd.prog.info? 24).map (fun i => i.size) = some 1 := by kernel_rfl
theorem ty_sz_26 : (Tryd.prog.info? 26).map (fun i => i.size) = some 2 := by kernel_rfl
theorem ty_sz_3 : (Tryd.prog.info? 3).map (fun i => i.size) = some 1 := by kernel_rfl
theorem ty_zr_26 : (Tryd.prog.info? 26).map (fun i => i.zero) = some (some (Value.agg #[(Value.int IntKind.i64 0), (Value.slice none 0 0)])) := by kernel_rfl

end Go.Proofs.YtdalcpadcggklaaDoor
