/- Proved here: closed facts on the types and functions of the program -/
import Derived.Test.YtfhjmoikggiblaaK8
import Derived.Test.YtfhjmoikggiblaaProg
namespace Go.Proofs.Ytfhjmoikggiblaa
open Go Go.RowKit
set_option linter.unusedVariables false
set_option linter.unusedSimpArgs false
set_option maxRecDepth 100000
set_option maxHeartbeats 4000000

theorem fn_ok_15 : callOkB Try.prog 15 = true := by kernel_rfl
theorem fn_ok_16 : callOkB Try.prog 16 = true := by kernel_rfl
theorem fn_ok_17 : callOkB Try.prog 17 = true := by kernel_rfl
theorem fn_ok_18 : callOkB Try.prog 18 = true := by kernel_rfl
theorem fn_ok_19 : callOkB Try.prog 19 = true := by kernel_rfl
theorem fn_ok_20 : callOkB Try.prog 20 = true := by kernel_rfl
theorem fn_ok_21 : callOkB Try.prog 21 = true := by kernel_rfl
theorem fn_ok_22 : callOkB Try.prog 22 = true := by kernel_rfl
theorem fn_ok_23 : callOkB Try.prog 23 = true := by kernel_rfl
theorem fn_ok_24 : callOkB Try.prog 24 = true := by kernel_rfl
theorem fn_ok_25 : callOkB Try.prog 25 = true := by kernel_rfl
theorem fn_ok_26 : callOkB Try.prog 26 = true := by kernel_rfl
theorem fn_ok_27 : callOkB Try.prog 27 = true := by kernel_rfl
theorem fn_ok_28 : callOkB Try.prog 28 = true := by kernel_rfl
theorem fn_ok_29 : callOkB Try.prog 29 = true := by kernel_rfl
theorem fn_ok_30 : callOkB Try.prog 30 = true := by kernel_rfl
theorem fn_ok_31 : callOkB Try.prog 31 = true := by kernel_rfl
theorem fn_ok_32 : callOkB Try.prog 32 = true := by kernel_rfl
theorem fn_ok_33 : callOkB Try.prog 33 = true := by kernel_rfl
theorem fn_ok_34 : callOkB Try.prog 34 = true := by kernel_rfl
theorem fn_ok_35 : callOkB Try.prog 35 = true := by kernel_rfl
theorem fn_ok_36 : callOkB Try.prog 36 = true := by kernel_rfl
theorem fn_ok_37 : callOkB Try.prog 37 = true := by kernel_rfl
theorem fn_ok_38 : callOkB Try.prog 38 = true := by kernel_rfl
theorem fn_ok_39 : callOkB Try.prog 39 = true := by kernel_rfl
theorem fn_ok_40 : callOkB Try.prog 40 = true := by kernel_rfl
theorem fn_ok_41 : callOkB Try.prog 41 = true := by kernel_rfl
theorem fn_ok_42 : callOkB Try.prog 42 = true := by kernel_rfl
theorem fn_ok_43 : callOkB Try.prog 43 = true := by kernel_rfl
theorem fn_ok_44 : callOkB Try.prog 44 = true := by kernel_rfl
theorem fn_ok_45 : callOkB Try.prog 45 = true := by kernel_rfl
theorem fn_ok_46 : callOkB Try.prog 46 = true := by kernel_rfl
theorem fn_ok_47 : callOkB Try.prog 47 = true := by kernel_rfl
theorem fn_ok_48 : callOkB Try.prog 48 = true := by kernel_rfl
theorem fn_ok_49 : callOkB Try.prog 49 = true := by kernel_rfl
theorem fn_ok_50 : callOkB Try.prog 50 = true := by kernel_rfl
theorem fn_ok_51 : callOkB Try.prog 51 = true := by kernel_rfl
theorem fn_ok_52 : callOkB Try.prog 52 = true := by kernel_rfl
theorem fn_ok_53 : callOkB Try.prog 53 = true := by kernel_rfl
theorem fn_ok_54 : callOkB Try.prog 54 = true := by kernel_rfl
theorem fn_ok_55 : callOkB Try.prog 55 = true := by kernel_rfl
theorem fn_ok_56 : callOkB Try.prog 56 = true := by kernel_rfl
theorem fn_ok_57 : callOkB Try.prog 57 = true := by kernel_rfl
theorem fn_ok_58 : callOkB Try.prog 58 = true := by kernel_rfl
theorem fn_ok_59 : callOkB Try.prog 59 = true := by kernel_rfl
theorem fn_ok_60 : callOkB Try.prog 60 = true := by kernel_rfl
theorem fn_ok_61 : callOkB Try.prog 61 = true := by kernel_rfl
theorem fn_ok_62 : callOkB Try.prog 62 = true := by kernel_rfl
theorem fn_ok_63 : callOkB Try.prog 63 = true := by kernel_rfl
theorem fn_ok_64 : callOkB Try.prog 64 = true := by kernel_rfl
theorem fn_ok_65 : callOkB Try.prog 65 = true := by kernel_rfl
theorem fn_ok_66 : callOkB Try.prog 66 = true := by kernel_rfl
theorem fn_ok_67 : callOkB Try.prog 67 = true := by kernel_rfl
theorem fn_ok_68 : callOkB Try.prog 68 = true := by kernel_rfl
theorem fn_ok_69 : callOkB Try.prog 69 = true := by kernel_rfl
theorem fn_ok_70 : callOkB Try.prog 70 = true := by kernel_rfl
theorem fn_ok_71 : callOkB Try.prog 71 = true := by kernel_rfl
theorem fn_ok_72 : callOkB Try.prog 72 = true := by kernel_rfl
theorem fn_ok_73 : callOkB Try.prog 73 = true := by kernel_rfl
theorem fn_ok_74 : callOkB Try.prog 74 = true := by kernel_rfl
theorem fn_ok_75 : callOkB Try.prog 75 = true := by kernel_rfl
theorem fn_ok_76 : callOkB Try.prog 76 = true := by kernel_rfl
theorem fn_ok_77 : callOkB Try.prog 77 = true := by kernel_rfl
theorem fn_ok_78 : callOkB Try.prog 78 = true := by kernel_rfl
theorem fn_ok_79 : callOkB Try.prog 79 = true := by kernel_rfl
theorem fn_ok_80 : callOkB Try.prog 80 = true := by kernel_rfl
theorem fn_ok_81 : callOkB Try.prog 81 = true := by kernel_rfl
theorem fn_ok_82 : callOkB Try.prog 82 = true := by kernel_rfl
theorem fn_ok_83 : callOkB Try.prog 83 = true := by kernel_rfl
theorem fn_ok_84 : callOkB Try.prog 84 = true := by kernel_rfl
theorem ty_ag_22 : aggB Try.prog 22 = some false := by kernel_rfl
theorem ty_ag_24 : aggB Try.prog 24 = some true := by kernel_rfl
theorem ty_ag_27 : aggB Try.prog 27 = some true := by kernel_rfl
theorem ty_ag_3 : aggB Try.prog 3 = some false := by kernel_rfl
theorem ty_ag_9 : aggB Try.prog 9 = some false := by kernel_rfl
theorem ty_el_22 : ElT Try.prog 22 (Value.slice none 0 0) 24 := by unfold ElT; kernel_rfl
theorem ty_el_3 : ElT Try.prog 3 (Value.int IntKind.i64 0) 8 := by unfold ElT; kernel_rfl
theorem ty_el_9 : ElT Try.prog 9 (Value.string (bs [])) 16 := by unfold ElT; kernel_rfl
theorem ty_fd_24_0 : fdB Try.prog 24 0 = some 0 := by kernel_rfl
theorem ty_fd_24_1 : fdB Try.prog 24 1 = some 1 := by kernel_rfl
theorem ty_fd_27_0 : fdB Try.prog 27 0 = some 0 := by kernel_rfl
theorem ty_fd_27_1 : fdB Try.prog 27 1 = some 1 := by kernel_rfl
theorem ty_mixed : Try.prog.follows .mixedOrders = true := by kernel_rfl
theorem ty_st_27 : stB Try.prog 27 = some [(Value.int IntKind.i64 0), (Value.slice none 0 0)] := by kernel_rfl
theorem ty_sz_22 : (Try.prog.info? 22).map (fun i => i.size) = some 1 := by kernel_rfl
theorem ty_sz_24 : (Try.prog.info? 24).map (fun i => i.size) = some 2 := by kernel_rfl
theorem ty_sz_27 : (Try.prog.info? 27).map (fun i => i.size) = some 2 := by kernel_rfl
theorem ty_sz_3 : (Try.prog.info? 3).map (fun i => i.size) = some 1 := by kernel_rfl
theorem ty_zr_27 : (Try.prog.info? 27).map (fun i => i.zero) = some (some (Value.agg #[(Value.int IntKind.i64 0), (Value.slice none 0 0)])) := by kernel_rfl

end Go.Proofs.Ytfhjmoikggiblaa
